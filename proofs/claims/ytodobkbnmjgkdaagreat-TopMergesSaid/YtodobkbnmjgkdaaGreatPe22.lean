import Derived.Test.YtodobkbnmjgkdaaGreatPe21
namespace Go.Proofs.YtodobkbnmjgkdaaGreat
open Go.RowKit (Below)
set_option linter.unusedVariables false
set_option linter.unusedSimpArgs false
set_option maxRecDepth 100000
namespace HL
section
variable {w0:World} {F M:Mem} {R:VP}
theorem aIM {P:cI} (h:aA w0 F M P) {K:VP} (hK:∀ M' s',Mem.le M M'→aA w0 F M' (star (dX 6 s' []) P)→K s'.v M'):(aJ PP w0).bsl 71 0 [] K M:=by
 refine rN (cells:=#[]) Tryz.underlying71 W.aB2 (by decide) (by kernel_rfl) fun b hb hw=>?_
 have l1:Mem.le M (M.set b (.row (#[]:Array Value).toList 130)):=Mem.fC _ hb
 exact hK _ ⟨some ⟨b,0,none⟩,0,0⟩ l1 (aA.tV h l1 (wE.new (n:=0) hb (cS.new hw) rfl))
theorem aJa {P:cI} (h:aA w0 F M P) (q d k s a g:Int) {K:VP} (hK:∀ M' s',Mem.le M M'→aA w0 F M' (star (dX 6 s' [.int .i64 q,.int .i64 d,.int .i64 k,.int .i64 s,.int .i64 a,.int .i64 g]) P)→K s'.v M') :
  (aJ PP w0).bsl 71 1 [(0,.agg #[.int .i64 q,.int .i64 d,.int .i64 k,.int .i64 s,.int .i64 a,.int .i64 g])] K M:=by
 refine rN (n:=1) (cells:=#[.int .i64 q,.int .i64 d,.int .i64 k,.int .i64 s,.int .i64 a,.int .i64 g]) Tryz.underlying71 W.aB2 (by decide) (by kernel_rfl) fun b hb hw=>?_
 have l1:Mem.le M (M.set b (.row (#[.int .i64 q,.int .i64 d,.int .i64 k,.int .i64 s,.int .i64 a,.int .i64 g]:Array Value).toList 130)):=Mem.fC _ hb
 exact hK _ ⟨some ⟨b,0,none⟩,1,1⟩ l1 (aA.tV h l1 (wE.new (n:=1) hb (cS.new hw) rfl))
theorem aI4 {b:Nat} {j:Jb} {cs:List Value} {M:Mem} (o:cS w0 M b cs tJb) (hc:cs = x6 j):(aJ PP w0).ld tJb ⟨b,0,none⟩ M = some j.v∧(aJ PP w0).ld 33 ⟨b,4,none⟩ M = some (.agg #[.int .i64 j.at_,.int .i64 j.gen])∧rd w0 M ⟨b,2,none⟩ = some (.int .i64 j.key)∧rd w0 M ⟨b,1,none⟩ = some (.int .i64 j.data):=by
 subst hc
 refine ⟨dG (cs:=x6 j) W.aGO (fun f v hf=>by rw [add_eq,aN o,Nat.zero_add];exact hf),dG (cs:=[.int .i64 j.at_,.int .i64 j.gen]) W.g33 (fun f v hf=>?_),aN (o:=2) o,aN (o:=1) o⟩
 rw [add_eq,aN o]
 match f,hf with
 | 0,hf=>exact hf
 | 1,hf=>exact hf
section
variable {d:Nat} {x:qL} {Q:cI}
theorem aFM {k:Nat} {j:Jb} (h:aA w0 F M (star (eW d x) Q)) (hok:DOk x) (hj:x.l[k]? = some j) (hR:∀ M',aA w0 F M' (star (eW d (x.out k)) Q)→R j.v M') :
  C PP w0 Id.oZ #[.pointer (some ⟨d,0,none⟩),.int .i64 (k:Int)] R M:=by
 apply oZ.go
 unfold oZ.T aH
 have hL:=hok.ll
 have hk:=(List.getElem?_eq_some_iff.1 hj).1
 intro b1 hb0 hbw
 have g1:=(aA.new h hb0 hbw [.int .i64 0,.int .i64 0,.int .i64 0,.int .i64 0,.int .i64 0,.int .i64 0] tJb).dY
 change aA w0 F (M.set b1 (.row [.int .i64 0,.int .i64 0,.int .i64 0,.int .i64 0,.int .i64 0,.int .i64 0] tJb)) (star (eW d x) (star (bA b1 [.int .i64 0,.int .i64 0,.int .i64 0,.int .i64 0,.int .i64 0,.int .i64 0] tJb) Q)) at g1
 generalize M.set b1 _ = M1 at g1 ⊢
 obtain ⟨p,s,hs⟩:=eW.open_ g1
 obtain ⟨blk,hsa,hns,hin,hrd⟩:=hs.job hj
 have ldj:(aJ PP w0).ld tJb ⟨blk,k * 6,none⟩ M1 = some j.v:=dG (cs:=x6 j) W.aGO (fun f v hf=>by rw [add_eq];exact hrd f v hf)
 simp only [aT,aR W.c71,add_eq,Nat.zero_add,hs.rl,aC,aM,hsa,Int.toNat_natCast,ldj]
 refine ⟨⟨by omega,by omega⟩,?_⟩
 unfold Jb.v
 simp only [aZ,aW,aL,aU]
 intro b2 hb2 hbw2
 have g2:=(aA.new hs.close hb2 hbw2 [.int .i64 0,.int .i64 0,.int .i64 0,.int .i64 0,.int .i64 0,.int .i64 0] tJb)
 change aA w0 F (M1.set b2 (.row [.int .i64 0,.int .i64 0,.int .i64 0,.int .i64 0,.int .i64 0,.int .i64 0] tJb)) (star (bA b2 [.int .i64 0,.int .i64 0,.int .i64 0,.int .i64 0,.int .i64 0,.int .i64 0] tJb) _) at g2
 generalize M1.set b2 _ = M2 at g2 ⊢
 refine hJ (vs:=x6 j) W.aGO g2.bC (by simp [x6]) (y7 j) ?_
 have g3:=g2.lJ (cs':=eO [.int .i64 0,.int .i64 0,.int .i64 0,.int .i64 0,.int .i64 0,.int .i64 0] 0 (x6 j)) (e':=tJb)
 have hov:eO [.int .i64 0,.int .i64 0,.int .i64 0,.int .i64 0,.int .i64 0,.int .i64 0] 0 (x6 j) = x6 j:=rfl
 rw [hov] at g3 ⊢
 generalize M2.set b2 _ = M3 at g3 ⊢
 have g4:aA w0 F M3 (star (eW d x) (star (bA b2 (x6 j) tJb) (star (bA b1 [.int .i64 0,.int .i64 0,.int .i64 0,.int .i64 0,.int .i64 0,.int .i64 0] tJb) Q))):=g3.dY
 obtain ⟨p,s,hs⟩:=eW.open_ g4
 have hn:=hs.n
 have hw:lN ((k:Int) + 1) = ((k + 1:Nat):Int):=bX (by omega)
 have hcap:=aA.aKq xM (by decide) hs.right
 simp only [aT,aR W.c71,add_eq,Nat.zero_add,hs.rl,aC,aM,hw]
 refine ⟨⟨by omega,by omega,by omega⟩,⟨by omega,by omega,by omega⟩,?_⟩
 refine aIM hs fun M4 s38 l4 h4=>?_
 rw [aM]
 refine ⟨aN (o:=4) h4.right.bC,aN (o:=4) h4.right.bC,?_⟩
 have e4:=dR h4.right.right
 have n38:s38.n = 0:=by have:=(dR h4).2.1;simp at this;omega
 have hx1:(Value.slice (if s.c = (0:Int).toNat then s.a else s.a.map (·.add ((0:Int).toNat * 6))) (k - (0:Int).toNat) (s.c - (0:Int).toNat)) = SV.v ⟨if s.c = 0 then s.a else s.a.map (·.add 0),k,s.c⟩:=by
  unfold SV.v
  simp only [Int.toNat_zero,Nat.zero_mul,Nat.sub_zero,Int.toNat_natCast]
 rw [hx1]
 refine vK (news:=jdV (x.l.take k)) Tryz.underlying71 W.aB2 h4 (by rw [qF,List.length_take];simp only;omega) (by rw [aIe];exact aGS e4.1) (fun hh=>?_) (zZ _) (by decide) (by simp only;omega) fun M5 s41 h5=>?_
 ·simp only at hh ⊢
  obtain ⟨blk5,hsa5,_⟩:=hs.job hj
  rw [hsa5] at hh
  split at hh <;> cases hh
 rw [aM]
 refine ⟨aN (o:=4) h5.right.bC,?_⟩
 have e5:=dR h5.right.right
 have n41:s41.n = k:=by
  have:=(dR h5).2.1
  rw [List.nil_append,qF,List.length_take] at this;omega
 have hx2:(Value.slice (if s.c = ((k + 1:Nat):Int).toNat then s.a else s.a.map (·.add (((k + 1:Nat):Int).toNat * 6))) (s.n - ((k + 1:Nat):Int).toNat) (s.c - ((k + 1:Nat):Int).toNat)) = SV.v ⟨if s.c = k + 1 then s.a else s.a.map (·.add ((k + 1) * 6)),s.n - (k + 1),s.c - (k + 1)⟩:=by
  unfold SV.v
  simp only [Int.toNat_natCast]
 rw [hx2]
 refine vK (news:=jdV (x.l.drop (k + 1))) Tryz.underlying71 W.aB2 h5 (by rw [qF,List.length_drop];simp only;omega) (by rw [aIp];exact aGZ e5.1 e5.2.1 (by omega)) (fun hh=>?_) (zZ _) (by decide) (by simp only;omega) fun M6 s44 h6=>?_
 ·simp only at hh ⊢
  obtain ⟨blk5,hsa5,_⟩:=hs.job hj
  rw [hsa5] at hh
  split at hh <;> cases hh
 rw [aM]
 have h7:=h6.dY
 refine gO W.c71 h7.bC (by simp) rfl rfl ?_
 have h8:=h7.lJ (cs':=[.int .i64 x.most,.int .i64 x.now,.int .i64 x.next,.pointer (some ⟨p,0,none⟩),SV.v s44]) (e':=tD)
 rw [show ([.int .i64 x.most,.int .i64 x.now,.int .i64 x.next,.pointer (some ⟨p,0,none⟩),SV.v s]:List Value).set 4 (SV.v s44) = [.int .i64 x.most,.int .i64 x.now,.int .i64 x.next,.pointer (some ⟨p,0,none⟩),SV.v s44] from rfl]
 generalize M6.set d _ = M7 at h8 ⊢
 have her:[] ++ jdV (x.l.take k) ++ jdV (x.l.drop (k + 1)) = jdV (x.l.eraseIdx k):=by
  rw [List.nil_append,List.eraseIdx_eq_take_drop_succ]
  simp [List.flatMap_append]
 rw [her] at h8
 have h9:DH w0 F M7 d { x with l:=x.l.eraseIdx k } p s44 (star (bA b2 (x6 j) tJb) (star (bA b1 [.int .i64 0,.int .i64 0,.int .i64 0,.int .i64 0,.int .i64 0,.int .i64 0] tJb) Q)):=by
  obtain ⟨F1,k1,_,k2⟩:=h8.last
  obtain ⟨F2,k3,_,k4⟩:=k1.last
  exact k2 _ _ (k4 _ _ k3.right)
 have ob2:=h9.right.right.right.bC
 simp only [aT,aR W.c52,add_eq,Nat.zero_add,h9.rp,(aI4 ob2 rfl).2.1,aC,bN,aZ,aW,aL,aU]
 obtain ⟨F1,hp,back⟩:=h9.cQ
 have hlk:x.cQ.look j.at_ j.gen = 0:=hok.lk j (List.mem_of_getElem? hj)
 refine aHO (l:=x.cQ) hp hok.pl hok.bl (fun hh=>absurd hlk hh) fun n hn _ M8 h8=>?_
 have h10:=back M8 _ _ h8
 simp only [cD,aW,aL,aU]
 have ob3:=h10.right.right.right.bC
 rw [(aI4 ob3 rfl).1]
 unfold Jb.v
 simp only [aC,aZ,aW,aL,aU]
 have hout:x.out k = { x with l:=x.l.eraseIdx k,cQ:=x.cQ.gK n }:=by
  unfold qL.out
  rw [hj]
  simp only
  rw [show j.at_.toNat = n from by omega]
 have h11:aA w0 F M8 (star (bA b1 [.int .i64 0,.int .i64 0,.int .i64 0,.int .i64 0,.int .i64 0,.int .i64 0] tJb) (star (eW d (x.out k)) Q)):=by
  rw [hout]
  have:=DH.close (x:={ x with l:=x.l.eraseIdx k,cQ:=x.cQ.gK n }) h10
  obtain ⟨F1,k1,_,k2⟩:=this.last
  exact (k2 _ _ k1.right).dY
 refine hJ (vs:=x6 j) W.aGO h11.bC (by simp [x6]) (y7 j) ?_
 have h12:=h11.lJ (cs':=eO [.int .i64 0,.int .i64 0,.int .i64 0,.int .i64 0,.int .i64 0,.int .i64 0] 0 (x6 j)) (e':=tJb)
 rw [hov] at h12 ⊢
 generalize M8.set b1 _ = M9 at h12 ⊢
 rw [rC,(aI4 h12.bC rfl).1,aC]
 exact hR M9 h12.right
end
end
end HL
namespace HL
def tA (c:tW):Prop:=(c.kind = 1∨c.kind = 5∨c.kind = 6∨c.kind = 7)∧(c.queue < 0∨2≤c.queue)
section
variable {w0:World} {F M:Mem} {R:VP}
theorem aA.aME {A B D E:cI} (h:aA w0 F M (star A (star B (star D E)))):aA w0 F M (star D (star A (star B E))):=by
 obtain ⟨F',h1,_,h3⟩:=h.last
 exact (h3 _ _ h1.dY).dY
theorem aL4 (d:Nat) (a g b k:Int):dT PP (Op.equalIn (d + 1 + 1) 33 (.agg #[.int .i64 a,.int .i64 g]) (.agg #[.int .i64 b,.int .i64 k])) = some (a == b && g == k):=by
 have:=qY (P:=PP) (d:=d + 1) (es:=[a == b,g == k]) (xs:=#[.int .i64 a,.int .i64 g]) (ys:=#[.int .i64 b,.int .i64 k]) Tryz.underlying33 (by kernel_rfl)
  ⟨by decide,⟨.int .i64 a,.int .i64 b,by kernel_rfl,by kernel_rfl,j3 Tryz.underlying3 a b⟩,by decide,⟨.int .i64 g,.int .i64 k,by kernel_rfl,by kernel_rfl,j3 Tryz.underlying3 g k⟩,trivial⟩
 rw [show ([a == b,g == k]:List Bool).all id = (a == b && g == k) from by simp [List.all]] at this
 exact this
theorem aM5 (r s:fG):([r.why == s.why,(r.at_ == s.at_ && r.gen == s.gen),r.time == s.time,r.data == s.data,r.n == s.n]:List Bool).all id = decide (r = s):=by
 rw [Bool.eq_iff_iff]
 simp only [List.all_cons,List.all_nil,id,Bool.and_eq_true,beq_iff_eq,decide_eq_true_eq,and_true]
 cases r;cases s
 simp only [fG.mk.injEq]
 constructor
 ·rintro ⟨h1,⟨h2,h3⟩,h4,h5,h6⟩;exact ⟨h1,h2,h3,h4,h5,h6⟩
 ·rintro ⟨h1,h2,h3,h4,h5,h6⟩;exact ⟨h1,⟨h2,h3⟩,h4,h5,h6⟩
theorem aMa {X Y:Operand} (r s:fG):(aJ PP w0).bq .neq iQ X Y r.v s.v = some (.bool (!decide (r = s))):=by
 rw [←aM5]
 exact aA5 (es:=[r.why == s.why,(r.at_ == s.at_ && r.gen == s.gen),r.time == s.time,r.data == s.data,r.n == s.n]) Tryz.underlying65 (by kernel_rfl) (by kernel_rfl)
  ⟨by decide,⟨.int .i64 r.why,.int .i64 s.why,by kernel_rfl,by kernel_rfl,j3 Tryz.underlying25 r.why s.why⟩,
   by decide,⟨.agg #[.int .i64 r.at_,.int .i64 r.gen],.agg #[.int .i64 s.at_,.int .i64 s.gen],by kernel_rfl,by kernel_rfl,aL4 9997 r.at_ r.gen s.at_ s.gen⟩,
   by decide,⟨.int .i64 r.time,.int .i64 s.time,by kernel_rfl,by kernel_rfl,j3 Tryz.underlying2 r.time s.time⟩,
   by decide,⟨.int .i64 r.data,.int .i64 s.data,by kernel_rfl,by kernel_rfl,j3 Tryz.underlying3 r.data s.data⟩,
   by decide,⟨.int .i64 r.n,.int .i64 s.n,by kernel_rfl,by kernel_rfl,j3 Tryz.underlying3 r.n s.n⟩,trivial⟩
theorem aFp {X Y:Operand} (a0 a1 a2 a3 a4 a5 b0 b1 b2 b3 b4 b5:Int):(aJ PP w0).bq .neq iQ X Y (.agg #[.int .i64 a0,.int .i64 a1,.int .i64 a2,.int .i64 a3,.int .i64 a4,.int .i64 a5]) (.agg #[.int .i64 b0,.int .i64 b1,.int .i64 b2,.int .i64 b3,.int .i64 b4,.int .i64 b5]) = some (.bool (!decide ((⟨a0,a1,a2,a3,a4,a5⟩:fG) = ⟨b0,b1,b2,b3,b4,b5⟩))):=aMa ⟨a0,a1,a2,a3,a4,a5⟩ ⟨b0,b1,b2,b3,b4,b5⟩
theorem bR0 (x:Int):(aJ PP w0).oF iQ [(0,.int .i64 x)] = some (.agg #[.int .i64 x,.int .i64 0,.int .i64 0,.int .i64 0,.int .i64 0,.int .i64 0]):=by kernel_rfl
theorem bR2 (x:Int):(aJ PP w0).oF iQ [(2,.int .i64 x)] = some (.agg #[.int .i64 0,.int .i64 0,.int .i64 0,.int .i64 x,.int .i64 0,.int .i64 0]):=by kernel_rfl
theorem bR4 (x:Int):(aJ PP w0).oF iQ [(4,.int .i64 x)] = some (.agg #[.int .i64 0,.int .i64 0,.int .i64 0,.int .i64 0,.int .i64 0,.int .i64 x]):=by kernel_rfl
theorem aLs (x y:Int):(aJ PP w0).oF iQ [(2,.int .i64 x),(3,.int .i64 y)] = some (.agg #[.int .i64 0,.int .i64 0,.int .i64 0,.int .i64 x,.int .i64 y,.int .i64 0]):=by kernel_rfl
theorem aKM (a g x y:Int):(aJ PP w0).oF iQ [(1,.agg #[.int .i64 a,.int .i64 g]),(2,.int .i64 x),(3,.int .i64 y)] = some (.agg #[.int .i64 0,.int .i64 a,.int .i64 g,.int .i64 x,.int .i64 y,.int .i64 0]):=by kernel_rfl
theorem aMh (x y:Int):(aJ PP w0).oF 44 [(0,.int .i64 x),(1,.int .i64 y)] = some (.agg #[.int .i64 x,.int .i64 y]):=by kernel_rfl
end
end HL
namespace HL
section
variable {x:qL} {c:tW}
theorem aAX (h:tA c):gJ x c = (x,{ why:=1 }):=by unfold tA at h;unfold gJ;rw [if_pos h]
theorem aDg (h:¬ tA c) (k:c.kind = 1):gJ x c = match x.cQ.at_ with
  | none=>(x,{ why:=13 })
  | some a=>({ x with cQ:=x.cQ.take a 0,l:=x.l ++ [⟨c.queue,c.data,c.time,x.next,(a:Int),x.cQ.gen a⟩],next:=x.next + 1 },{ at_:=(a:Int),gen:=x.cQ.gen a,time:=c.time,data:=c.data }):=by
 unfold tA at h;unfold gJ;rw [if_neg h,if_pos k] <;> rfl
theorem zT (k:c.kind = 2∨c.kind = 3):gJ x c = if x.cQ.look c.at_ c.gen≠0 then (x,{ why:=x.cQ.look c.at_ c.gen })
  else match atD x.l c.at_ c.gen with
   | none=>(x,{})
   | some k=>match x.l[k]? with
    | none=>(x,{})
    | some j =>
     if c.kind = 3 then (x.out k,{ time:=j.key,data:=j.data })
     else if j.key < c.time then (x,{ why:=26 })
     else ({ x with l:=x.l.set k { j with key:=c.time } },{ time:=c.time,data:=j.data }):=by
 unfold gJ;rw [if_neg (fun h=>by omega),if_neg (by omega),if_pos k] <;> rfl
theorem aEK (k:c.kind = 4):gJ x c = if c.time < 0 then (x,{ why:=1 }) else ({ x with now:=kD x.now c.time },{ time:=kD x.now c.time }):=by
 unfold gJ;rw [if_neg (fun h=>by omega),if_neg (by omega),if_neg (by omega),if_pos k]
theorem aAd (h:¬ tA c) (k:c.kind = 5):gJ x c = match pW x.l c.queue with
  | none=>(x,{ why:=28 })
  | some y=>if x.now < y.2.1 then (x,{ why:=28 }) else
   match x.l[y.1]? with
   | none=>(x,{})
   | some j=>(x.out y.1,{ at_:=j.at_,gen:=j.gen,time:=j.key,data:=j.data }):=by
 unfold tA at h;unfold gJ;rw [if_neg h,if_neg (by omega),if_neg (by omega),if_neg (by omega),if_pos k] <;> rfl
theorem aBB (h:¬ tA c) (k:c.kind = 6):gJ x c = if c.queue = 0 then (x,{ why:=25 })
  else ({ x with l:=x.l.map fun j=>if j.queue = 1 then { j with queue:=0 } else j },{ n:=(iR 1 x.l:Int) }):=by
 unfold tA at h;unfold gJ;rw [if_neg h,if_neg (by omega),if_neg (by omega),if_neg (by omega),if_neg (by omega),if_pos k]
theorem aFe (h:¬ tA c) (k:c.kind = 7):gJ x c = (x,{ n:=(iR c.queue x.l:Int) }):=by
 unfold tA at h;unfold gJ;rw [if_neg h,if_neg (by omega),if_neg (by omega),if_neg (by omega),if_neg (by omega),if_neg (by omega),if_pos k]
theorem aE7 (k:c.kind < 1∨7 < c.kind):gJ x c = (x,{ why:=12 }):=by
 unfold gJ;rw [if_neg (fun h=>by omega),if_neg (by omega),if_neg (by omega),if_neg (by omega),if_neg (by omega),if_neg (by omega),if_neg (by omega)]
end
section
variable {w0:World} {F M:Mem} {R:VP}
theorem aId {b:Nat} {cs:List Value} {P:cI} {a0 a1 a2 a3 a4 a5:Int} (h:aA w0 F M (star (bA b cs iQ) P)) (hcs:cs.length = 6) {K:VP} (hK:∀ M',aA w0 F M' P→K (.agg #[.int .i64 a0,.int .i64 a1,.int .i64 a2,.int .i64 a3,.int .i64 a4,.int .i64 a5]) M') :
  (aJ PP w0).st iQ ⟨b,0,none⟩ (.agg #[.int .i64 a0,.int .i64 a1,.int .i64 a2,.int .i64 a3,.int .i64 a4,.int .i64 a5]) (fun M14=>ob ((aJ PP w0).rdv iQ (.pointer (some ⟨b,0,none⟩)) M14) fun v15=>K v15 M14) M:=by
 refine hJ (vs:=[.int .i64 a0,.int .i64 a1,.int .i64 a2,.int .i64 a3,.int .i64 a4,.int .i64 a5]) W.g65 h.bC (by simp [hcs]) (by intro v hv;simp only [List.mem_cons,List.not_mem_nil,or_false] at hv;rcases hv with rfl | rfl | rfl | rfl | rfl | rfl <;> rfl) ?_
 have hP2:=h.lJ (cs':=eO cs 0 [.int .i64 a0,.int .i64 a1,.int .i64 a2,.int .i64 a3,.int .i64 a4,.int .i64 a5]) (e':=iQ)
 have o2:=hP2.bC
 have ho:eO cs 0 [.int .i64 a0,.int .i64 a1,.int .i64 a2,.int .i64 a3,.int .i64 a4,.int .i64 a5] = [.int .i64 a0,.int .i64 a1,.int .i64 a2,.int .i64 a3,.int .i64 a4,.int .i64 a5]:=by
  match cs,hcs with
  | [_,_,_,_,_,_],_=>rfl
 rw [ho] at o2
 rw [rC,dG (cs:=[.int .i64 a0,.int .i64 a1,.int .i64 a2,.int .i64 a3,.int .i64 a4,.int .i64 a5]) W.g65 (fun j v hj=>by rw [ho,add_eq,aN o2,Nat.zero_add];exact hj),aC]
 exact hK _ hP2.right
section
variable {d:Nat} {x:qL} {Q:cI}
theorem DH.set {p:Nat} {s:SV} (h:DH w0 F M d x p s Q) {t:TypeId} (ht:iF PP t = true) {i:Nat} {j j':Jb} (hj:x.l[i]? = some j) {f:Nat} (hf:f < 6) {v:Value} (hv:bS v = true) (hcv:v.cells = #[v]) (he:(x6 j).set f v = x6 j')
  {blk:Nat} (ha:s.a = some ⟨blk,0,none⟩) {K:Mem→Prop} (hK:∀ M',DH w0 F M' d { x with l:=x.l.set i j' } p s Q→K M'):(aJ PP w0).st t ⟨blk,i * 6 + f,none⟩ v (fun M'=>K M') M:=by
 refine aA.stR (P:=PP) (c:=x6) (l:=x.l) xM (by decide) ht h.dY hj hf hv hcv he ha fun M' h'=>hK M' h'.dY
abbrev zR:List Value:=[.int .i64 0,.int .i64 0,.int .i64 0,.int .i64 0,.int .i64 0,.int .i64 0]
theorem aHo {c:tW} (h:aA w0 F M (star (eW d x) Q)) (hok:DOk x) (hq:c.queue = 0∨c.queue = 1) (hk:c.kind = 1∨c.kind = 5∨c.kind = 6∨c.kind = 7)
  (hR:∀ M',aA w0 F M' (star (eW d (gJ x c).1) Q)→R (gJ x c).2.v M') :
  C PP w0 Id.bV #[.pointer (some ⟨d,0,none⟩),c.v] R M:=by
 apply bV.go
 intro aB H
 unfold bV.T aH
 have hL:=hok.ll
 have hbq:¬ tA c:=by unfold tA;omega
 intro b1 hb0 hbw
 have g1:=(aA.new h hb0 hbw [.int .i64 c.kind,.int .i64 c.queue,.int .i64 c.at_,.int .i64 c.gen,.int .i64 c.time,.int .i64 c.data] qT).dY
 change aA w0 F (M.set b1 (.row [.int .i64 c.kind,.int .i64 c.queue,.int .i64 c.at_,.int .i64 c.gen,.int .i64 c.time,.int .i64 c.data] qT)) (star (eW d x) (star (bA b1 [.int .i64 c.kind,.int .i64 c.queue,.int .i64 c.at_,.int .i64 c.gen,.int .i64 c.time,.int .i64 c.data] qT) Q)) at g1
 generalize M.set b1 _ = M1 at g1 ⊢
 intro b3 hb3 hbw3
 have g3:=(aA.new g1 hb3 hbw3 [.int .i64 0,.int .i64 0,.int .i64 0,.int .i64 0,.int .i64 0,.int .i64 0] iQ).dY
 change aA w0 F (M1.set b3 (.row [.int .i64 0,.int .i64 0,.int .i64 0,.int .i64 0,.int .i64 0,.int .i64 0] iQ)) (star (eW d x) (star (bA b3 zR iQ) (star (bA b1 [.int .i64 c.kind,.int .i64 c.queue,.int .i64 c.at_,.int .i64 c.gen,.int .i64 c.time,.int .i64 c.data] qT) Q))) at g3
 generalize M1.set b3 _ = M2 at g3 ⊢
 have LC:∀ {M':Mem},cS w0 M' b1 [.int .i64 c.kind,.int .i64 c.queue,.int .i64 c.at_,.int .i64 c.gen,.int .i64 c.time,.int .i64 c.data] qT→rd w0 M' ⟨b1,0,none⟩ = some (.int .i64 c.kind)∧rd w0 M' ⟨b1,1,none⟩ = some (.int .i64 c.queue)∧rd w0 M' ⟨b1,4,none⟩ = some (.int .i64 c.time)∧rd w0 M' ⟨b1,5,none⟩ = some (.int .i64 c.data):=fun o=>⟨aN (o:=0) o,aN (o:=1) o,aN (o:=4) o,aN (o:=5) o⟩
 have fin:∀ (M4:Mem) (x':qL) (r:fG),gJ x c = (x',r)→aA w0 F M4 (star (eW d x') (star (bA b3 zR iQ) (star (bA b1 [.int .i64 c.kind,.int .i64 c.queue,.int .i64 c.at_,.int .i64 c.gen,.int .i64 c.time,.int .i64 c.data] qT) Q))) →
   (aJ PP w0).st iQ ⟨b3,0,none⟩ (.agg #[.int .i64 r.why,.int .i64 r.at_,.int .i64 r.gen,.int .i64 r.time,.int .i64 r.data,.int .i64 r.n]) (fun M14=>ob ((aJ PP w0).rdv iQ (.pointer (some ⟨b3,0,none⟩)) M14) fun v15=>R v15 M14) M4:=by
  intro M4 x' r hd g
  refine aId g.dY rfl fun M5 g5=>?_
  rw [hd] at hR
  refine hR M5 ?_
  obtain ⟨F',k1,_,k2⟩:=g5.last
  exact k2 _ _ k1.right
 have o1:=g3.right.right.bC
 simp only [aR W.c3,(LC o1).1,aC,aL]
 rw [fJ]
 split
 ·-- Schedule
  rename_i k
  have hd:=aDg (x:=x) hbq k
  obtain ⟨p,s,hs⟩:=eW.open_ g3
  simp only [aT,aR W.c52,add_eq,Nat.zero_add,hs.rp,aC,bN]
  obtain ⟨F1,hp,back⟩:=hs.cQ
  refine aH5 hp hok.pl hok.gl hok.bl hok.gv (fun hn M3 h3=>?_) fun a ha M3 h3=>?_
  ·rw [hn] at hd
   have h4:=(back M3 _ _ h3).close
   simp only [cD,aW,aZ,aL,bU,aU]
   intro b5 hb5 hbw5
   have g5:=aA.new h4 hb5 hbw5 [.int .i64 0,.int .i64 0] 33
   generalize M3.set b5 _ = M4 at g5 ⊢
   refine hJ (vs:=[.int .i64 0,.int .i64 0]) W.g33 g5.bC (by simp) (by intro v hv;simp only [List.mem_cons,List.not_mem_nil,or_false] at hv;rcases hv with rfl | rfl <;> rfl) ?_
   have g6:=g5.lJ (cs':=eO [.int .i64 0,.int .i64 0] 0 [.int .i64 0,.int .i64 0]) (e':=33)
   rw [Bool.not_false,dZ,bR0]
   simp only [aC,aZ,aW,aL,aU]
   exact fin _ x { why:=13 } hd g6.right
  ·rw [ha] at hd
   simp only at hd
   have h4:=back M3 _ _ h3
   simp only [cD,aW,aZ,aL,bU,aU]
   intro b5 hb5 hbw5
   have g5:=aA.new h4.close hb5 hbw5 [.int .i64 0,.int .i64 0] 33
   generalize M3.set b5 _ = M4 at g5 ⊢
   generalize hgg:x.cQ.gen a = g at hd ⊢
   refine hJ (vs:=[.int .i64 (a:Int),.int .i64 g]) W.g33 g5.bC (by simp) (by intro v hv;simp only [List.mem_cons,List.not_mem_nil,or_false] at hv;rcases hv with rfl | rfl <;> rfl) ?_
   have g6:=g5.lJ (cs':=eO [.int .i64 0,.int .i64 0] 0 [.int .i64 (a:Int),.int .i64 g]) (e':=33)
   have hov:eO [.int .i64 0,.int .i64 0] 0 [.int .i64 (a:Int),.int .i64 g] = [Value.int .i64 (a:Int),.int .i64 g]:=rfl
   rw [hov] at g6 ⊢
   generalize M4.set b5 _ = M5 at g6 ⊢
   rw [Bool.not_true,mE]
   obtain ⟨p2,s2,hs2⟩:=eW.open_ g6.dY
   have LR:∀ {M':Mem},cS w0 M' b5 [.int .i64 (a:Int),.int .i64 g] 33→(aJ PP w0).ld 33 ⟨b5,0,none⟩ M' = some (.agg #[.int .i64 (a:Int),.int .i64 g]):=fun o=>dG (cs:=[.int .i64 (a:Int),.int .i64 g]) W.g33 (fun j v hj=>by rw [add_eq,aN o,Nat.zero_add];exact hj)
   have hns:=hs2.n
   simp only at hns
   have q5:=hs2.right.right.right.bC
   have q1:=hs2.right.right.right.right.right.bC
   have hbJ:(aJ PP w0).oF tJb [(0,.int .i64 c.queue),(1,.int .i64 c.data),(2,.agg #[.int .i64 c.time,.int .i64 x.next]),(3,.agg #[.int .i64 (a:Int),.int .i64 g])] = some (.agg #[.int .i64 c.queue,.int .i64 c.data,.int .i64 c.time,.int .i64 x.next,.int .i64 (a:Int),.int .i64 g]):=by kernel_rfl
   have rx2:rd w0 M5 ⟨d,2,none⟩ = some (.int .i64 x.next):=hs2.rx
   simp only [aT,aR W.c71,aR W.c3,aR W.c2,add_eq,Nat.zero_add,hs2.rl,rx2,(LC q1).2.1,(LC q1).2.2.1,(LC q1).2.2.2,LR q5,aC,aM,aZ,aW,aL,aU,aMh,hbJ]
   have one:∀ v∈[Value.int .i64 c.queue,.int .i64 c.data,.int .i64 c.time,.int .i64 x.next,.int .i64 (a:Int),.int .i64 g],bS v = true:=fun v hv=>by
    simp only [List.mem_cons,List.not_mem_nil,or_false] at hv
    rcases hv with rfl | rfl | rfl | rfl | rfl | rfl <;> rfl
   have put:∀ (M9:Mem) (s':SV) (X:cI),aA w0 F M9 (star (dX 6 s' ([] ++ jdV x.l ++ [.int .i64 c.queue,.int .i64 c.data,.int .i64 c.time,.int .i64 x.next,.int .i64 (a:Int),.int .i64 g])) (star X (star (bA d [.int .i64 x.most,.int .i64 x.now,.int .i64 x.next,.pointer (some ⟨p2,0,none⟩),SV.v s2] tD) (star (dX 6 s2 (jdV x.l)) (star (lU p2 (x.cQ.take a 0)) (star (bA b5 [.int .i64 (a:Int),.int .i64 g] 33) (star (bA b3 zR iQ) (star (bA b1 [.int .i64 c.kind,.int .i64 c.queue,.int .i64 c.at_,.int .i64 c.gen,.int .i64 c.time,.int .i64 c.data] qT) Q)))))))) →
     (aJ PP w0).st 71 ⟨d,4,none⟩ (SV.v s') (fun M111=>ob (rd w0 M111 ⟨d,2,none⟩) fun v113=>mZ .i64 v113 fun n114=>(aJ PP w0).st 2 ⟨d,2,none⟩ (.int .i64 (lN (n114 + 1))) (fun M116=>ob ((aJ PP w0).ld 33 ⟨b5,0,none⟩ M116) fun v117=>shA v117 fun l118=>cM l118 fun u119 r120=>mZ .i64 u119 fun n121=>cM r120 fun u122 r123=>mZ .i64 u122 fun n124=>oY r123
      (ob (rd w0 M116 ⟨b1,4,none⟩) fun v125=>mZ .i64 v125 fun n126=>ob (rd w0 M116 ⟨b1,5,none⟩) fun v127=>mZ .i64 v127 fun n128=>ob ((aJ PP w0).oF iQ [(1,.agg #[.int .i64 n121,.int .i64 n124]),(2,.int .i64 n126),(3,.int .i64 n128)]) fun v129=>shA v129 fun l130=>cM l130 fun u131 r132=>mZ .i64 u131 fun n133=>cM r132 fun u134 r135=>mZ .i64 u134 fun n136=>cM r135 fun u137 r138=>mZ .i64 u137 fun n139=>cM r138 fun u140 r141=>mZ .i64 u140 fun n142=>cM r141 fun u143 r144=>mZ .i64 u143 fun n145=>cM r144 fun u146 r147=>mZ .i64 u146 fun n148=>oY r147
       ((aJ PP w0).st iQ ⟨b3,0,none⟩ (.agg #[.int .i64 n133,.int .i64 n136,.int .i64 n139,.int .i64 n142,.int .i64 n145,.int .i64 n148]) (fun M149=>ob ((aJ PP w0).rdv iQ (.pointer (some ⟨b3,0,none⟩)) M149) fun v150=>R v150 M149) M116))) M111) M9:=by
    intro M9 s' X h9
    have h10:=h9.aME
    refine gO W.c71 h10.bC (by simp) rfl rfl ?_
    have h11:=h10.lJ (cs':=[.int .i64 x.most,.int .i64 x.now,.int .i64 x.next,.pointer (some ⟨p2,0,none⟩),SV.v s']) (e':=tD)
    rw [show ([.int .i64 x.most,.int .i64 x.now,.int .i64 x.next,.pointer (some ⟨p2,0,none⟩),SV.v s2]:List Value).set 4 (SV.v s') = [.int .i64 x.most,.int .i64 x.now,.int .i64 x.next,.pointer (some ⟨p2,0,none⟩),SV.v s'] from rfl]
    generalize M9.set d _ = M10 at h11 ⊢
    have rxx:rd w0 M10 ⟨d,2,none⟩ = some (.int .i64 x.next):=aN (o:=2) h11.bC
    rw [rxx]
    simp only [aC,aL]
    have hnx:=hok.nx
    rw [aQ (show -9223372036854775808≤x.next + 1∧x.next + 1≤9223372036854775807 by omega)]
    refine gO W.c2 h11.bC (by simp) rfl rfl ?_
    have h12:=h11.lJ (cs':=[.int .i64 x.most,.int .i64 x.now,.int .i64 (x.next + 1),.pointer (some ⟨p2,0,none⟩),SV.v s']) (e':=tD)
    rw [show ([.int .i64 x.most,.int .i64 x.now,.int .i64 x.next,.pointer (some ⟨p2,0,none⟩),SV.v s']:List Value).set 2 (.int .i64 (x.next + 1)) = [.int .i64 x.most,.int .i64 x.now,.int .i64 (x.next + 1),.pointer (some ⟨p2,0,none⟩),SV.v s'] from rfl]
    generalize M10.set d _ = M11 at h12 ⊢
    have t5:=h12.right.right.right.right.right.bC
    have t1:=h12.right.right.right.right.right.right.right.bC
    simp only [LR t5,(LC t1).2.2.1,(LC t1).2.2.2,aC,aZ,aW,aL,aU,aKM]
    refine fin M11 _ _ hd ?_
    refine DH.close (p:=p2) (s:=s') ?_
    show aA w0 F _ (star _ (star (dX 6 s' (jdV (x.l ++ [⟨c.queue,c.data,c.time,x.next,(a:Int),g⟩]))) (star (lU p2 (x.cQ.take a 0)) _)))
    rw [List.nil_append] at h12
    rw [show jdV (x.l ++ [⟨c.queue,c.data,c.time,x.next,(a:Int),g⟩]) = jdV x.l ++ [.int .i64 c.queue,.int .i64 c.data,.int .i64 c.time,.int .i64 x.next,.int .i64 (a:Int),.int .i64 g] from by simp [List.flatMap_append,x6]]
    obtain ⟨F1,k1,_,k2⟩:=h12.last
    refine k2 _ _ ?_
    obtain ⟨F2,k3,_,k4⟩:=k1.last
    refine k4 _ _ ?_
    obtain ⟨F3,k5,_,k6⟩:=(k3.right.right).last
    exact k6 _ _ k5.right
   have hln:s2.n≤10000:=by omega
   refine ⟨?_,?_⟩
   ·refine aIM hs2 fun M6 s363 l6 h6=>?_
    rw [aM]
    have r5:=h6.right.right.right.right.bC
    have r1:=h6.right.right.right.right.right.right.bC
    refine ⟨aN (o:=4) h6.right.bC,(LC r1).2.1,(LC r1).2.2.2,(LC r1).2.2.1,aN (o:=2) h6.right.bC,LR r5,?_,?_⟩
    ·have e6:=dR h6.right.right
     have n363:s363.n = 0:=by have:=(dR h6).2.1;simp at this;omega
     refine vK Tryz.underlying71 W.aB2 h6 e6.2.1 e6.1 e6.2.2 (zZ _) (by decide) (by omega) fun M7 s366 h7=>?_
     rw [aM]
     have t5:=h7.right.right.right.right.bC
     have t1:=h7.right.right.right.right.right.right.bC
     refine ⟨(LC t1).2.1,(LC t1).2.2.2,(LC t1).2.2.1,aN (o:=2) h7.right.bC,LR t5,?_⟩
     refine aJa h7 _ _ _ _ _ _ fun M8 s369 l8 h8=>?_
     rw [aM]
     have e8:=dR h8
     have n366:s366.n = s2.n:=by
      have:=(dR h8.right).2.1
      rw [List.nil_append,qF] at this
      simp only at this;omega
     refine vK Tryz.underlying71 W.aB2 h8.dY e8.2.1 e8.1 e8.2.2 one (by decide) (by have:=e8.2.1;simp at this;omega) fun M9 s372 h9=>?_
     rw [aM]
     exact put M9 s372 _ h9
    ·refine aJa h6 _ _ _ _ _ _ fun M7 s377 l7 h7=>?_
     rw [aM]
     refine ⟨aN (o:=4) h7.right.right.bC,?_⟩
     have e6:=dR h7.right.right.right
     have n363:s363.n = 0:=by have:=(dR h6).2.1;simp at this;omega
     refine vK Tryz.underlying71 W.aB2 h7.dY e6.2.1 e6.1 e6.2.2 (zZ _) (by decide) (by omega) fun M8 s380 h8=>?_
     rw [aM]
     have e8:=dR h8.right
     have n380:s380.n = s2.n:=by
      have:=(dR h8).2.1
      rw [List.nil_append,qF] at this
      simp only at this;omega
     refine vK Tryz.underlying71 W.aB2 h8 e8.2.1 e8.1 e8.2.2 one (by decide) (by have:=e8.2.1;simp at this;omega) fun M9 s383 h9=>?_
     rw [aM]
     exact put M9 s383 _ h9
   ·refine aJa hs2 _ _ _ _ _ _ fun M6 s388 l6 h6=>?_
    rw [aM]
    refine ⟨aN (o:=4) h6.right.bC,?_⟩
    refine aIM h6 fun M7 s391 l7 h7=>?_
    rw [aM]
    refine ⟨aN (o:=4) h7.right.right.bC,?_⟩
    have e6:=dR h7.right.right.right
    have n391:s391.n = 0:=by have:=(dR h7).2.1;simp at this;omega
    refine vK Tryz.underlying71 W.aB2 h7 e6.2.1 e6.1 e6.2.2 (zZ _) (by decide) (by omega) fun M8 s394 h8=>?_
    rw [aM]
    have e8:=dR h8.right
    have n394:s394.n = s2.n:=by
     have:=(dR h8).2.1
     rw [List.nil_append,qF] at this
     simp only at this;omega
    refine vK Tryz.underlying71 W.aB2 h8 e8.2.1 e8.1 e8.2.2 one (by decide) (by have:=e8.2.1;simp at this;omega) fun M9 s397 h9=>?_
    rw [aM]
    exact put M9 s397 _ h9
 ·rename_i k1
  rw [fJ]
  split
  ·-- Fire
   rename_i k
   have hd:=aAd (x:=x) hbq k
   simp only [aR W.c3,add_eq,Nat.zero_add,(LC o1).2.1,aC,aL]
   refine aG5 g3 hL fun M3 l3=>?_
   have g4:=g3.le l3
   rw [aL,cR]
   cases hf:pW x.l c.queue with
   | none =>
    rw [hf] at hd
    rw [if_pos (show aET none < 0 by decide),bR0]
    simp only [aC,aZ,aW,aL,aU]
    exact fin M3 x { why:=28 } hd g4
   | some y =>
    obtain ⟨j,hj,hjq,hye,_⟩:=aAA hf
    obtain ⟨y1,y2⟩:=y
    simp only at hj hye
    subst hye
    rw [hf] at hd
    simp only [hj] at hd
    have hacc:aET (some (y1,j.e)) = (y1:Int):=rfl
    rw [hacc,if_neg (by omega)]
    obtain ⟨p,s,hs⟩:=eW.open_ g4
    obtain ⟨blk,hsa,hns,hin,hrd⟩:=hs.job hj
    have ek:rd w0 M3 ⟨blk,y1 * 6 + 2,none⟩ = some (.int .i64 j.key):=hrd 2 _ rfl
    simp only [aT,aR W.c71,aR W.c2,add_eq,Nat.zero_add,hs.rl,hs.rn,aC,aM,hsa,Int.toNat_natCast,ek,aL]
    refine ⟨⟨by omega,by omega⟩,?_⟩
    rw [cR]
    split
    ·rename_i hdue
     rw [if_pos (show x.now < j.e.1 from hdue)] at hd
     rw [bR0]
     simp only [aC,aZ,aW,aL,aU]
     exact fin M3 x { why:=28 } hd g4
    ·rename_i hdue
     rw [if_neg (show ¬ x.now < j.e.1 from hdue)] at hd
     refine Eq.mpr (H.J1 ..) ?_
     unfold bV.J1.T aH
     refine aFM g4 hok hj fun M4 h4=>?_
     unfold Jb.v
     simp only [aZ,aW,aL,aU]
     intro b5 hb5 hbw5
     have g5:=aA.new h4 hb5 hbw5 [.int .i64 0,.int .i64 0,.int .i64 0,.int .i64 0,.int .i64 0,.int .i64 0] tJb
     generalize M4.set b5 _ = M5 at g5 ⊢
     refine hJ (vs:=x6 j) W.aGO g5.bC (by simp [x6]) (y7 j) ?_
     have g6:=g5.lJ (cs':=eO [.int .i64 0,.int .i64 0,.int .i64 0,.int .i64 0,.int .i64 0,.int .i64 0] 0 (x6 j)) (e':=tJb)
     have hov:eO [.int .i64 0,.int .i64 0,.int .i64 0,.int .i64 0,.int .i64 0,.int .i64 0] 0 (x6 j) = x6 j:=rfl
     rw [hov] at g6 ⊢
     generalize M5.set b5 _ = M6 at g6 ⊢
     have hb6:=aI4 g6.bC rfl
     simp only [aR W.c3,aR W.c2,add_eq,Nat.zero_add,hb6.2.1,hb6.2.2.1,hb6.2.2.2,aC,aZ,aW,aL,aU,aKM]
     exact fin M6 _ _ hd g6.right
  ·rename_i k5
   rw [fJ]
   split
   ·-- Merge
    rename_i k
    have hd:=aBB (x:=x) hbq k
    simp only [aR W.c3,add_eq,Nat.zero_add,(LC o1).2.1,aC,aL]
    rw [fJ]
    split
    ·rename_i hz
     rw [if_pos hz] at hd
     rw [bR0]
     simp only [aC,aZ,aW,aL,aU]
     exact fin M2 x { why:=25 } hd g3
    ·rename_i hz
     rw [if_neg hz] at hd
     have key:∀ (n i:Nat) (l':List Jb) (M':Mem),i≤x.l.length→x.l.length < i + n→l'.length = x.l.length→(∀ a,a < i→l'[a]? = (x.l[a]?).map fun j=>if j.queue = 1 then { j with queue:=0 } else j)→(∀ a,i≤a→l'[a]? = x.l[a]?) →
       aA w0 F M' (star (eW d { x with l:=l' }) (star (bA b3 zR iQ) (star (bA b1 [.int .i64 c.kind,.int .i64 c.queue,.int .i64 c.at_,.int .i64 c.gen,.int .i64 c.time,.int .i64 c.data] qT) Q))) →
       bV.L2 aB n (some ⟨d,0,none⟩) ⟨b3,0,none⟩ ((iR 1 (x.l.take i):Nat):Int) (i:Int) M':=by
      intro n
      induction n with
      | zero=>intro i l' M' e1 e2;omega
      | succ n ih =>
       intro i l' M' e1 e2 e3 e4 e5 g
       refine Eq.mpr (H.L2 ..) ?_
       unfold bV.L2.T aH
       obtain ⟨p,s,hs⟩:=eW.open_ g
       have ns:=hs.n
       simp only at ns
       simp only [aT,aR W.c71,aR W.c3,add_eq,Nat.zero_add,hs.rl,aC,aM]
       rw [cR]
       split
       ·have hlt:i < x.l.length:=by omega
        have hj:=List.getElem?_eq_getElem hlt
        have htk:x.l.take (i + 1) = x.l.take i ++ [x.l[i]]:=by rw [List.take_add_one,hj];rfl
        generalize x.l[i] = j at hj htk
        have hj':l'[i]? = some j:=by rw [e5 i (Nat.le_refl _),hj]
        obtain ⟨blk,hsa,_,hin,hrd⟩:=hs.job (x:={ x with l:=l' }) hj'
        have eq:rd w0 M' ⟨blk,i * 6,none⟩ = some (.int .i64 j.queue):=hrd 0 _ rfl
        simp only [hsa,aT,Int.toNat_natCast,add_eq,Nat.zero_add,eq,aC,aL]
        have hbd:0≤(i:Int)∧(i:Int) < ((s.n:Nat):Int):=⟨by omega,by omega⟩
        refine ⟨hbd,?_⟩
        have hle:iR 1 (x.l.take i)≤x.l.length:=Nat.le_trans List.countP_le_length (by rw [List.length_take];omega)
        have hct:iR 1 (x.l.take (i + 1)) = iR 1 (x.l.take i) + (if j.queue = 1 then 1 else 0):=by
         rw [htk];unfold iR
         rw [List.countP_append,List.countP_singleton]
         simp
        rw [fJ,bX (i:=i) (by omega),bX (by omega)]
        split
        ·rename_i hq1
         rw [if_pos hq1] at hct
         refine ⟨hbd,?_⟩
         have:=DH.set (x:={ x with l:=l' }) hs W.c3 (i:=i) (j':={ j with queue:=0 }) hj' (f:=0) (by decide) (v:=.int .i64 0) rfl rfl rfl hsa (K:=fun M435=>bV.L2 aB n (some ⟨d,0,none⟩) ⟨b3,0,none⟩ ((iR 1 (x.l.take i) + 1:Nat):Int) ((i + 1:Nat):Int) M435) fun M4 h4=>by
          rw [←hct]
          refine ih (i + 1) (l'.set i { j with queue:=0 }) M4 (by omega) (by omega) (by rw [List.length_set,e3]) (fun a ha=>?_) (fun a ha=>?_) (DH.close h4)
          ·by_cases hai:a = i
           ·subst hai
            rw [List.getElem?_set_self (by omega),hj]
            simp only [Option.map_some,if_pos hq1]
           ·rw [List.getElem?_set_ne (Ne.symm hai)];exact e4 a (by omega)
          ·rw [List.getElem?_set_ne (by omega)];exact e5 a (by omega)
         exact this
        ·rename_i hq1
         rw [if_neg hq1] at hct
         rw [show iR 1 (x.l.take i) = iR 1 (x.l.take (i + 1)) from by omega]
         refine ih (i + 1) l' M' (by omega) (by omega) e3 (fun a ha=>?_) (fun a ha=>e5 a (by omega)) g
         by_cases hai:a = i
         ·subst hai
          rw [hj',hj]
          simp only [Option.map_some,if_neg hq1]
         ·exact e4 a (by omega)
       ·have hii:i = x.l.length:=by omega
        have hl':l' = x.l.map fun j=>if j.queue = 1 then { j with queue:=0 } else j:=List.ext_getElem? fun a=>by
         rw [List.getElem?_map]
         by_cases ha:a < i
         ·exact e4 a ha
         ·rw [e5 a (by omega),List.getElem?_eq_none (by omega)];rfl
        subst hii
        rw [List.take_length,bR4]
        simp only [aC,aZ,aW,aL,aU]
        rw [hl'] at g
        exact fin M' _ _ hd g
     exact ⟨_,key (x.l.length + 1) 0 x.l M2 (by omega) (by omega) rfl (fun a ha=>by omega) (fun a _=>rfl) g3⟩
   ·-- Count
    rename_i k6
    have k:c.kind = 7:=by omega
    have hd:=aFe (x:=x) hbq k
    simp only [aR W.c3,add_eq,Nat.zero_add,(LC o1).2.1,aC,aL]
    refine aGT g3 hL ?_
    simp only [aL]
    rw [bR4]
    simp only [aC,aZ,aW,aL,aU]
    exact fin M2 _ _ hd g3
end
end
end HL
namespace HL
section
variable {w0:World} {F M:Mem} {R:VP} {d:Nat} {x:qL} {Q:cI}
def qL.new (n:Int):qL:=⟨n,0,0,⟨n,[],[],[],[]⟩,[]⟩
theorem aJ1 {n:Int} (h:aA w0 F M Q) (h0:0≤n) (h1:n≤65536) (hR:∀ M' d,aA w0 F M' (star (eW d (qL.new n)) Q)→R (.pointer (some ⟨d,0,none⟩)) M'):C PP w0 Id.qS #[.int .i64 n] R M:=by
 apply qS.go
 unfold qS.T aH
 refine aJe h h0 h1 fun M1 p g1=>?_
 rw [bN]
 have hb:(aJ PP w0).oF tD [(0,.int .i64 n),(3,.pointer (some ⟨p,0,none⟩))] = some (.agg #[.int .i64 n,.int .i64 0,.int .i64 0,.pointer (some ⟨p,0,none⟩),.slice none 0 0]):=by kernel_rfl
 rw [hb]
 simp only [aC,aZ,aW,aL,bN,sJ,aU]
 intro d hd0 hdw
 have g:=aA.new g1 hd0 hdw [.int .i64 n,.int .i64 0,.int .i64 0,.pointer (some ⟨p,0,none⟩),SV.v ⟨none,0,0⟩] tD
 refine hR _ d ?_
 obtain ⟨F1,k1,_,k2⟩:=g.last
 have:DH w0 F _ d (qL.new n) p ⟨none,0,0⟩ Q:=k2 _ _ (aA.oB (k:=6) k1)
 exact this.close
theorem aK0 {c:tW} (h:aA w0 F M (star (eW d x) Q)) (hok:DOk x) (hn:gC x.now) (hct:gC c.time)
  (hR:∀ M',aA w0 F M' (star (eW d (gJ x c).1) Q)→R (gJ x c).2.v M') :
  C PP w0 Id.fK #[.pointer (some ⟨d,0,none⟩),c.v] R M:=by
 apply fK.go
 intro aB H
 unfold fK.T aH
 have hL:=hok.ll
 intro b1 hb0 hbw
 have g1:=(aA.new h hb0 hbw [.int .i64 c.kind,.int .i64 c.queue,.int .i64 c.at_,.int .i64 c.gen,.int .i64 c.time,.int .i64 c.data] qT).dY
 change aA w0 F (M.set b1 (.row [.int .i64 c.kind,.int .i64 c.queue,.int .i64 c.at_,.int .i64 c.gen,.int .i64 c.time,.int .i64 c.data] qT)) (star (eW d x) (star (bA b1 [.int .i64 c.kind,.int .i64 c.queue,.int .i64 c.at_,.int .i64 c.gen,.int .i64 c.time,.int .i64 c.data] qT) Q)) at g1
 generalize M.set b1 _ = M1 at g1 ⊢
 intro b3 hb3 hbw3
 have g3:=(aA.new g1 hb3 hbw3 [.int .i64 0,.int .i64 0,.int .i64 0,.int .i64 0,.int .i64 0,.int .i64 0] iQ).dY
 change aA w0 F (M1.set b3 (.row [.int .i64 0,.int .i64 0,.int .i64 0,.int .i64 0,.int .i64 0,.int .i64 0] iQ)) (star (eW d x) (star (bA b3 zR iQ) (star (bA b1 [.int .i64 c.kind,.int .i64 c.queue,.int .i64 c.at_,.int .i64 c.gen,.int .i64 c.time,.int .i64 c.data] qT) Q))) at g3
 generalize M1.set b3 _ = M2 at g3 ⊢
 have LC:∀ {M':Mem},cS w0 M' b1 [.int .i64 c.kind,.int .i64 c.queue,.int .i64 c.at_,.int .i64 c.gen,.int .i64 c.time,.int .i64 c.data] qT→rd w0 M' ⟨b1,0,none⟩ = some (.int .i64 c.kind)∧rd w0 M' ⟨b1,1,none⟩ = some (.int .i64 c.queue)∧rd w0 M' ⟨b1,4,none⟩ = some (.int .i64 c.time)∧(aJ PP w0).ld qT ⟨b1,0,none⟩ M' = some (.agg #[.int .i64 c.kind,.int .i64 c.queue,.int .i64 c.at_,.int .i64 c.gen,.int .i64 c.time,.int .i64 c.data])∧(aJ PP w0).ld 33 ⟨b1,2,none⟩ M' = some (.agg #[.int .i64 c.at_,.int .i64 c.gen]):=fun o =>
  ⟨aN (o:=0) o,aN (o:=1) o,aN (o:=4) o,dG (cs:=c.cells) W.g68 (fun j v hj=>by rw [add_eq,aN o,Nat.zero_add];exact hj),dG (cs:=[.int .i64 c.at_,.int .i64 c.gen]) W.g33 (fun j v hj=>by
   rw [add_eq,aN o]
   match j,hj with
   | 0,hj=>exact hj
   | 1,hj=>exact hj)⟩
 have strip:∀ {M5:Mem} {x':qL},aA w0 F M5 (star (eW d x') (star (bA b1 [.int .i64 c.kind,.int .i64 c.queue,.int .i64 c.at_,.int .i64 c.gen,.int .i64 c.time,.int .i64 c.data] qT) Q))→aA w0 F M5 (star (eW d x') Q):=fun g5=>by
  obtain ⟨F',k1,_,k2⟩:=g5.last
  exact k2 _ _ k1.right
 have fin:∀ (M4:Mem) (x':qL) (r:fG),gJ x c = (x',r)→aA w0 F M4 (star (eW d x') (star (bA b3 zR iQ) (star (bA b1 [.int .i64 c.kind,.int .i64 c.queue,.int .i64 c.at_,.int .i64 c.gen,.int .i64 c.time,.int .i64 c.data] qT) Q))) →
   (aJ PP w0).st iQ ⟨b3,0,none⟩ (.agg #[.int .i64 r.why,.int .i64 r.at_,.int .i64 r.gen,.int .i64 r.time,.int .i64 r.data,.int .i64 r.n]) (fun M14=>ob ((aJ PP w0).rdv iQ (.pointer (some ⟨b3,0,none⟩)) M14) fun v15=>R v15 M14) M4:=by
  intro M4 x' r hd g
  refine aId g.dY rfl fun M5 g5=>?_
  rw [hd] at hR
  exact hR M5 (strip g5)
 have o1:=g3.right.right.bC
 have keyJ2:¬ (c.kind = 1∨c.kind = 5∨c.kind = 6∨c.kind = 7)→∀ t:Bool,(t = true↔(c.kind = 2∨c.kind = 3))→fK.J2 aB (some ⟨d,0,none⟩) ⟨b1,0,none⟩ ⟨b3,0,none⟩ c.kind t M2:=by
  intro hnq t ht
  refine Eq.mpr (H.J2 ..) ?_
  unfold fK.J2.T aH
  cases t with
  | true =>
   have hk:=ht.1 rfl
   have hd:=zT (x:=x) hk
   rw [dZ]
   obtain ⟨p,s,hs⟩:=eW.open_ g3
   simp only [aT,aR W.c52,add_eq,Nat.zero_add,hs.rp,(LC o1).2.2.2.2,aC,bN,aZ,aW,aL,aU]
   obtain ⟨F1,hp,_⟩:=hs.cQ
   refine aEq hp hok.pl fun M3 l3=>?_
   have g4:=g3.le l3
   have o4:=g4.right.right.bC
   rw [aL,cB]
   split
   ·rename_i hz
    rw [if_neg (fun hh=>hh hz)] at hd
    obtain ⟨k,hat⟩:=hok.look _ _ hz
    simp only [(LC o4).2.2.2.2,aC,aZ,aW,aL,aU]
    refine aLA g4 hL fun M5 l5=>?_
    rw [hat] at hd ⊢
    have hkl:k < x.l.length:=(List.findIdx?_eq_some_iff_getElem.1 hat).1
    have hj:=List.getElem?_eq_getElem hkl
    generalize x.l[k] = j at hj
    simp only [hj] at hd
    have g5:=g4.le l5
    have o5:=g5.right.right.bC
    simp only [aR W.c3,(LC o5).1,aC,aL]
    rw [fJ]
    split
    ·rename_i k3
     rw [if_pos k3] at hd
     refine aFM g5 hok hj fun M6 h6=>?_
     unfold Jb.v
     simp only [aZ,aW,aL,aU]
     intro b5 hb5 hbw5
     have g6:=aA.new h6 hb5 hbw5 [.int .i64 0,.int .i64 0,.int .i64 0,.int .i64 0,.int .i64 0,.int .i64 0] tJb
     generalize M6.set b5 _ = M7 at g6 ⊢
     refine hJ (vs:=x6 j) W.aGO g6.bC (by simp [x6]) (y7 j) ?_
     have g7:=g6.lJ (cs':=eO [.int .i64 0,.int .i64 0,.int .i64 0,.int .i64 0,.int .i64 0,.int .i64 0] 0 (x6 j)) (e':=tJb)
     have hov:eO [.int .i64 0,.int .i64 0,.int .i64 0,.int .i64 0,.int .i64 0,.int .i64 0] 0 (x6 j) = x6 j:=rfl
     rw [hov] at g7 ⊢
     generalize M7.set b5 _ = M8 at g7 ⊢
     have hb7:=aI4 g7.bC rfl
     simp only [aR W.c3,aR W.c2,add_eq,Nat.zero_add,hb7.2.2.1,hb7.2.2.2,aC,aZ,aW,aL,aU,aLs]
     exact fin M8 _ _ hd g7.right
    ·rename_i k3
     rw [if_neg k3] at hd
     obtain ⟨p,s,hs5⟩:=eW.open_ g5
     obtain ⟨blk,hsa,hns,hin,hrd⟩:=hs5.job hj
     have hbd:0≤(k:Int)∧(k:Int) < ((s.n:Nat):Int):=⟨by omega,by omega⟩
     have ek:rd w0 M5 ⟨blk,k * 6 + 2,none⟩ = some (.int .i64 j.key):=hrd 2 _ rfl
     simp only [aT,aR W.c71,aR W.c2,add_eq,Nat.zero_add,hs5.rl,(LC o5).2.2.1,aC,aM,hsa,Int.toNat_natCast,ek,aL]
     refine ⟨hbd,?_⟩
     rw [cR]
     split
     ·rename_i hk2
      rw [if_pos (show j.key < c.time from hk2)] at hd
      rw [bR0]
      simp only [aC,aZ,aW,aL,aU]
      exact fin M5 x { why:=26 } hd g5
     ·rename_i hk2
      rw [if_neg (show ¬ j.key < c.time from hk2)] at hd
      refine ⟨hbd,?_⟩
      refine DH.set hs5 W.c2 (j':={ j with key:=c.time }) hj (by decide) rfl rfl rfl hsa fun M6 h6=>?_
      have o6:=h6.right.right.right.right.bC
      obtain ⟨blk',hsa',_,_,hrd6⟩:=DH.job (x:={ x with l:=x.l.set k { j with key:=c.time } }) h6 (i:=k) (j:={ j with key:=c.time }) (List.getElem?_set_self hkl)
      rw [hsa] at hsa';cases hsa'
      have ed:rd w0 M6 ⟨blk,k * 6 + 1,none⟩ = some (.int .i64 j.data):=hrd6 1 _ rfl
      have rl6:rd w0 M6 ⟨d,4,none⟩ = some (SV.v s):=h6.rl
      simp only [aT,aR W.c71,aR W.c3,aR W.c2,add_eq,Nat.zero_add,rl6,(LC o6).2.2.1,aC,aM,hsa,Int.toNat_natCast,ed,aZ,aW,aL,aU,aLs]
      refine ⟨hbd,?_⟩
      exact fin M6 _ _ hd (DH.close (x:={ x with l:=x.l.set k { j with key:=c.time } }) h6)
   ·rename_i hz
    rw [if_pos hz] at hd
    rw [bR0]
    simp only [aC,aZ,aW,aL,aU]
    exact fin M3 _ _ hd g4
  | false =>
   have hk:¬ (c.kind = 2∨c.kind = 3):=fun hh=>by have:=ht.2 hh;cases this
   rw [mE,fJ]
   split
   ·rename_i k
    have hd:=aEK (x:=x) k
    simp only [aR W.c2,add_eq,Nat.zero_add,(LC o1).2.2.1,aC,aL]
    rw [cR]
    split
    ·rename_i ht
     rw [if_pos ht] at hd
     rw [bR0]
     simp only [aC,aZ,aW,aL,aU]
     exact fin M2 _ _ hd g3
    ·rename_i ht
     rw [if_neg ht] at hd
     obtain ⟨p,s,hs⟩:=eW.open_ g3
     simp only [aT,aR W.c2,add_eq,Nat.zero_add,hs.rn,aC,aL]
     refine aJ0 hn hct ?_
     simp only [aL]
     refine gO W.c2 hs.bC (by simp) rfl rfl ?_
     have h6:=hs.lJ (cs':=[.int .i64 x.most,.int .i64 (kD x.now c.time),.int .i64 x.next,.pointer (some ⟨p,0,none⟩),SV.v s]) (e':=tD)
     rw [show ([.int .i64 x.most,.int .i64 x.now,.int .i64 x.next,.pointer (some ⟨p,0,none⟩),SV.v s]:List Value).set 1 (.int .i64 (kD x.now c.time)) = [.int .i64 x.most,.int .i64 (kD x.now c.time),.int .i64 x.next,.pointer (some ⟨p,0,none⟩),SV.v s] from rfl]
     generalize M2.set d _ = M6 at h6 ⊢
     have en6:rd w0 M6 ⟨d,1,none⟩ = some (.int .i64 (kD x.now c.time)):=aN (o:=1) h6.bC
     simp only [en6,aC,aZ,aW,aL,aU,bR2]
     exact fin M6 _ _ hd (DH.close (x:={ x with now:=kD x.now c.time }) h6)
   ·rename_i k
    have hd:=aE7 (x:=x) (c:=c) (by omega)
    rw [bR0]
    simp only [aC,aZ,aW,aL,aU]
    exact fin M2 _ _ hd g3
 have keyJ1:∀ t:Bool,(t = true↔(c.kind = 1∨c.kind = 5∨c.kind = 6∨c.kind = 7))→fK.J1 aB (some ⟨d,0,none⟩) ⟨b1,0,none⟩ ⟨b3,0,none⟩ c.kind t M2:=by
  intro t ht
  refine Eq.mpr (H.J1 ..) ?_
  unfold fK.J1.T aH
  cases t with
  | true =>
   have hk:=ht.1 rfl
   rw [dZ]
   have hcall:(c.queue = 0∨c.queue = 1)→C PP w0 Id.bV #[.pointer (some ⟨d,0,none⟩),c.v] (fun v53 M54=>shA v53 fun l55=>cM l55 fun u56 r57=>mZ .i64 u56 fun n58=>cM r57 fun u59 r60=>mZ .i64 u59 fun n61=>cM r60 fun u62 r63=>mZ .i64 u62 fun n64=>cM r63 fun u65 r66=>mZ .i64 u65 fun n67=>cM r66 fun u68 r69=>mZ .i64 u68 fun n70=>cM r69 fun u71 r72=>mZ .i64 u71 fun n73=>oY r72 ((aJ PP w0).st iQ ⟨b3,0,none⟩ (.agg #[.int .i64 n58,.int .i64 n61,.int .i64 n64,.int .i64 n67,.int .i64 n70,.int .i64 n73]) (fun M74=>ob ((aJ PP w0).rdv iQ (.pointer (some ⟨b3,0,none⟩)) M74) fun v75=>R v75 M74) M54)) M2:=fun hq=>by
    refine aHo g3 hok hq hk fun M5 h5=>?_
    unfold fG.v
    simp only [aZ,aW,aL,aU]
    exact fin M5 _ _ rfl h5
   simp only [aR W.c3,add_eq,Nat.zero_add,(LC o1).2.1,(LC o1).2.2.2.1,aC,aZ,aW,aL,aU]
   rw [cB]
   split
   ·rename_i hq
    exact hcall (.inl hq)
   ·rename_i hq
    rw [cB]
    split
    ·rename_i hq1
     exact hcall (.inr hq1)
    ·rename_i hq1
     rw [bR0]
     simp only [aC,aZ,aW,aL,aU]
     exact fin M2 _ _ (aAX ⟨hk,by omega⟩) g3
  | false =>
   have hk:¬ (c.kind = 1∨c.kind = 5∨c.kind = 6∨c.kind = 7):=fun hh=>by have:=ht.2 hh;cases this
   rw [mE,fJ]
   split
   ·rename_i k
    exact keyJ2 hk _ (by rw [k];simp)
   ·rename_i k
    refine keyJ2 hk _ ?_
    simp only [beq_iff_eq]
    constructor
    ·intro hh;exact .inr hh
    ·intro hh;omega
 simp only [aR W.c3,(LC o1).1,aC,aL]
 rw [fJ]
 split
 ·rename_i k;exact keyJ1 _ (by rw [k];simp)
 ·rename_i k1
  rw [fJ]
  split
  ·rename_i k;exact keyJ1 _ (by rw [k];simp)
  ·rename_i k2
   rw [fJ]
   split
   ·rename_i k;exact keyJ1 _ (by rw [k];simp)
   ·rename_i k3
    refine keyJ1 _ ?_
    simp only [beq_iff_eq]
    constructor
    ·intro hh;exact .inr (.inr (.inr hh))
    ·intro hh;omega
end
end HL
set_option maxHeartbeats 1000000
namespace HL
namespace PS
variable {κ κ':Type} {p:PS κ} {p':PS κ'}
theorem aA0 (h:p.pl = p'.pl):p.most = p'.most∧p.free = p'.free∧p.l.length = p'.l.length∧(∀ j:Nat,(p.l[j]?).map (·.g) = (p'.l[j]?).map (·.g))∧∀ j:Nat,(p.l[j]?).map (·.t) = (p'.l[j]?).map (·.t):=by
 unfold pl at h
 simp only [Pl.mk.injEq] at h
 obtain ⟨h1,h2,h3,h4,h5⟩:=h
 refine ⟨h1,h5,?_,fun j=>?_,fun j=>?_⟩
 ·have:=congrArg List.length h2
  simpa using this
 ·rw [←List.getElem?_map,←List.getElem?_map,h2]
 ·rw [←List.getElem?_map,←List.getElem?_map,h3]
theorem aIS (h:p.pl = p'.pl) {j:Nat} {x:sU κ} (hx:p.l[j]? = some x):∃ y,p'.l[j]? = some y∧y.g = x.g∧y.t = x.t:=by
 obtain ⟨_,_,_,h4,h5⟩:=aA0 h
 have a:=h4 j
 have b:=h5 j
 rw [hx] at a b
 cases hy:p'.l[j]? with
 | none=>rw [hy] at a;cases a
 | some y =>
  rw [hy] at a b
  simp only [Option.map_some,Option.some.injEq] at a b
  exact ⟨y,rfl,a.symm,b.symm⟩
theorem aMt (h:p.pl = p'.pl) (hok:p'.Ok):p.Ok:=by
 obtain ⟨_,h2,_,_,_⟩:=aA0 h
 refine ⟨by rw [h2];exact hok.nd,fun a ha=>?_⟩
 rw [h2] at ha
 obtain ⟨y,hy,ht⟩:=hok.fr a ha
 obtain ⟨x,hx,_,hxt⟩:=aIS h.symm hy
 exact ⟨x,hx,by rw [hxt];exact ht⟩
theorem aIG (h:p.pl = p'.pl) {x:sU κ} (hx:x∈p.l):∃ y∈p'.l,y.g = x.g∧y.t = x.t:=by
 obtain ⟨j,hj⟩:=List.getElem?_of_mem hx
 obtain ⟨y,hy,h1⟩:=aIS h hj
 exact ⟨y,List.mem_of_getElem? hy,h1⟩
theorem aJB (hok:p.Ok):aG8 p.pl:=by
 refine ⟨by unfold pl;simp,by unfold pl;simp,fun a ha=>?_,hok.nd⟩
 obtain ⟨x,hx,ht⟩:=hok.fr a ha
 have:=(List.getElem?_eq_some_iff.1 hx).1
 unfold pl
 simp only [List.length_map,List.getElem?_map,hx,Option.map_some,ht]
 exact ⟨this,trivial⟩
theorem aBT {z v:κ} (hok:p.Ok) {a:Nat} (ha:p.at_ = some a) {b g:Int} {w:κ} (h:(p.take z a v).find b g = some w):(b = (a:Int)∧g = p.gen a)∨p.find b g = some w:=by
 obtain ⟨t1,t2,_⟩:=aAh hok ha z v
 obtain ⟨k,rfl,hk,hg⟩:=bK h
 by_cases e:k = a
 ·subst e
  rw [t1] at hk
  cases hk
  exact .inl ⟨rfl,rfl⟩
 ·rw [t2 k e] at hk
  exact .inr (j6 hk hg)
theorem aBS {z:κ} {a:Nat} {x:sU κ} (hx:p.l[a]? = some x) {b g:Int} {w:κ} (h:(p.gK z a).find b g = some w):b≠(a:Int)∧p.find b g = some w:=by
 obtain ⟨h1,_⟩:=wS z hx
 obtain ⟨k,rfl,hk,hg⟩:=bK h
 rw [h1] at hk
 by_cases e:a = k
 ·subst e
  rw [List.getElem?_set_self (List.getElem?_eq_some_iff.1 hx).1] at hk
  cases hk
 ·rw [List.getElem?_set_ne e] at hk
  exact ⟨by omega,j6 hk hg⟩
theorem aDs {a:Nat} {v:κ} {x:sU κ} (hx:p.l[a]? = some x) {b g:Int} {w:κ} (h:(p.put a v).find b g = some w):∃ w',p.find b g = some w':=by
 obtain ⟨h1,_⟩:=vY v hx
 obtain ⟨k,rfl,hk,hg⟩:=bK h
 rw [h1] at hk
 by_cases e:a = k
 ·subst e
  rw [List.getElem?_set_self (List.getElem?_eq_some_iff.1 hx).1] at hk
  obtain ⟨xg,xt,xv⟩:=x
  cases hk
  exact ⟨_,j6 hx hg⟩
 ·rw [List.getElem?_set_ne e] at hk
  exact ⟨_,j6 hk hg⟩
end PS
theorem aDo {P:PS V5} {A:List bR} {f t b g:Int} {w:V5} (h:(yV P A f t).find b g = some w):∃ w',P.find b g = some w':=by
 obtain ⟨k,rfl,hk,hg⟩:=PS.bK h
 rw [tC] at hk
 cases hx:P.l[k]? with
 | none=>rw [hx] at hk;cases hk
 | some x =>
  rw [hx,Option.map_some] at hk
  refine ⟨x.v,PS.j6 ?_ hg⟩
  rw [hx]
  split at hk <;> (obtain ⟨xg,xt,xv⟩:=x;cases hk;rfl)
structure yK where
 K:Int
 S:QS
 I:List nH
 y0:Hv
 y1:Hv
 P:PS V5
 oP:dN→Option dN
 wh:dN→Option Int
 now:Int
 gI:Int
 last:Int
 top:Int
def z6 (y0 y1:Hv) (q:Int):dN:=if q = 0 then y0.h else y1.h
def Jb.r (j:Jb):dN:=(j.at_,j.gen)
def jk (y0 y1:Hv) (j:Jb):dN × dN × bR:=(j.r,z6 y0 y1 j.queue,j.e)
def ik (x:nH):dN × dN × bR:=(x.r,x.h,x.e)
def Jb.v5 (j:Jb):V5:=(j.queue,j.key,j.data,j.at_,j.gen)
structure c9 (Y:yK) (d:qL) (tm:Int):Prop where
 q:eB Y.S Y.I [Y.y0,Y.y1] tm
 K3:1≤Y.K∧Y.K≤3
 k0:Y.y0.k = Y.K
 k1:Y.y1.k = Y.K
 pk:Y.P.pl = d.cQ
 ipk:Y.S.ip.pl = d.cQ
 most:Y.S.most = d.most
 now:Y.now = d.now
 aBe:gC d.now
 nx:Y.S.next = d.next
 par:Y.I.map ik = d.l.map (jk Y.y0 Y.y1)
 qr:∀ j∈d.l,j.queue = 0∨j.queue = 1
 jf:∀ j∈d.l,Y.P.find j.at_ j.gen = some j.v5
 jb:∀ j∈d.l,Y.oP j.r = some j.r
 jb2:∀ r x,Y.oP r = some x→∃ j∈d.l,j.r = r
 jw:∀ j∈d.l,Y.wh j.r = some j.zY
 lv:∀ a g v,Y.P.find a g = some v→∃ j∈d.l,j.at_ = a∧j.gen = g
 sn:(d.l.map (·.zY)).Nodup
 sl:∀ j∈d.l,0≤j.zY∧j.zY < d.next
section
variable {Y:yK} {d:qL} {tm:Int}
theorem c9.pp (h:c9 Y d tm):Y.P.pl = Y.S.ip.pl:=h.pk.trans h.ipk.symm
theorem c9.pok (h:c9 Y d tm):Y.P.Ok:=PS.aMt h.pp h.q.io
theorem c9.pg (h:c9 Y d tm):∀ x∈Y.P.l,0≤x.g∧x.g≤tm:=fun x hx=>by
 obtain ⟨y,hy,e,_⟩:=PS.aIG h.pp hx
 have:=h.q.ig y hy
 omega
theorem c9.pg1 (h:c9 Y d tm):∀ x∈Y.P.l,x.t = true→1≤x.g:=fun x hx ht=>by
 obtain ⟨y,hy,e,et⟩:=PS.aIG h.pp hx
 have:=h.q.ig1 y hy (by rw [et];exact ht)
 omega
theorem c9.len (h:c9 Y d tm):Y.I.length = d.l.length:=by
 have:=congrArg List.length h.par
 simpa using this
theorem c9.wL (h:c9 Y d tm):Y.P.l.length = Y.P.free.length + d.l.length∧(Y.P.l.length:Int)≤d.most∧Y.P.most = d.most∧d.most≤300∧1≤d.most:=by
 obtain ⟨e1,e2,e3,_⟩:=PS.aA0 h.pp
 have:=h.q.il
 have:=h.q.ill
 have:=h.q.im
 have:=h.q.m2
 have:=h.q.m1
 have:=h.most
 have:=h.len
 refine ⟨by rw [e3,e2];omega,by rw [e3];omega,by rw [e1];omega,by omega,by omega⟩
theorem c9.refs (h:c9 Y d tm):Y.I.map (·.r) = d.l.map Jb.r:=by
 have:=congrArg (List.map Prod.fst) h.par
 rw [List.map_map,List.map_map] at this
 exact this
theorem c9.rnd (h:c9 Y d tm):(d.l.map Jb.r).Nodup:=by rw [←h.refs];exact h.q.ind
theorem c9.ok (h:c9 Y d tm) (htm:tm≤900000):DOk d:=by
 obtain ⟨e1,e2,e3,e4,e5⟩:=h.wL
 have hp:d.cQ = Y.P.pl:=h.pk.symm
 have hnx:=h.q.nx
 have:=h.nx
 refine ⟨by rw [hp];exact PS.aJB h.pok,fun a g hl=>?_,fun j hj=>?_,?_,?_,fun g hg=>?_,?_,?_⟩
 ·rw [hp,←PS.p7] at hl
  obtain ⟨v,hv⟩:=Option.isSome_iff_exists.1 hl
  obtain ⟨j,hj,ea,eg⟩:=h.lv a g v hv
  cases hk:HL.atD d.l a g with
  | some k=>exact ⟨k,rfl⟩
  | none =>
   have:=List.findIdx?_eq_none_iff.1 hk j hj
   simp [ea,eg] at this
 ·rw [hp,←PS.p7,h.jf j hj];rfl
 ·rw [hp];show Y.P.free.length≤10000;omega
 ·rw [hp];show (Y.P.l.map (·.g)).length≤10000;rw [List.length_map];omega
 ·rw [hp] at hg
  obtain ⟨x,hx,rfl⟩:=List.mem_map.1 hg
  have:=h.pg x hx
  omega
 ·omega
 ·omega
theorem c9.split (h:c9 Y d tm) {A B:List Jb} {j:Jb} (hd:d.l = A ++ j::B):∃ IA x IB,Y.I = IA ++ x::IB∧IA.map ik = A.map (jk Y.y0 Y.y1)∧x.r = j.r∧x.h = z6 Y.y0 Y.y1 j.queue∧x.e = j.e∧IB.map ik = B.map (jk Y.y0 Y.y1):=by
 have hp:=h.par
 rw [hd,List.map_append,List.map_cons] at hp
 obtain ⟨IA,I2,e1,e2,e3⟩:=List.map_eq_append_iff.1 hp
 obtain ⟨x,IB,e4,e5,e6⟩:=List.map_eq_cons_iff.1 e3
 subst e4
 have e7:(x.r,x.h,x.e) = (j.r,z6 Y.y0 Y.y1 j.queue,j.e):=e5
 simp only [Prod.mk.injEq] at e7
 exact ⟨IA,x,IB,e1,e2,e7.1,e7.2.1,e7.2.2,e6⟩
theorem c9.aFQ (h:c9 Y d tm) {x:nH} (hx:x∈Y.I):∃ j∈d.l,x.r = j.r∧x.h = z6 Y.y0 Y.y1 j.queue∧x.e = j.e:=by
 have:ik x∈Y.I.map ik:=List.mem_map.2 ⟨x,hx,rfl⟩
 rw [h.par] at this
 obtain ⟨j,hj,e⟩:=List.mem_map.1 this
 have e7:(j.r,z6 Y.y0 Y.y1 j.queue,j.e) = (x.r,x.h,x.e):=e
 simp only [Prod.mk.injEq] at e7
 exact ⟨j,hj,e7.1.symm,e7.2.1.symm,e7.2.2.symm⟩
theorem c9.eT (h:c9 Y d tm):Y.y0.h≠Y.y1.h:=fun e=>by
 have:=h.q.fW
 simp [e] at this
theorem aF8 (h:c9 Y d tm) {p q:Int} (hp:p = 0∨p = 1) (hq:q = 0∨q = 1) (e:z6 Y.y0 Y.y1 p = z6 Y.y0 Y.y1 q):p = q:=by
 have eT:=h.eT
 unfold z6 at e
 rcases hp with rfl | rfl <;> rcases hq with rfl | rfl <;> first | rfl | (simp at e;exact absurd e (by first | exact eT | exact eT.symm))
theorem c9.atD (h:c9 Y d tm) {a g:Int} {k:Nat} (hk:atD d.l a g = some k):∃ j,d.l[k]? = some j∧j.at_ = a∧j.gen = g∧∃ A B,d.l = A ++ j::B∧A.length = k:=by
 obtain ⟨h1,h2,_⟩:=List.findIdx?_eq_some_iff_getElem.1 hk
 refine ⟨d.l[k],List.getElem?_eq_getElem h1,?_⟩
 have h3:d.l[k].at_ = a∧d.l[k].gen = g:=by simpa using h2
 refine ⟨h3.1,h3.2,d.l.take k,d.l.drop (k + 1),?_,?_⟩
 ·rw [←List.drop_eq_getElem_cons h1,List.take_append_drop]
 ·rw [List.length_take,Nat.min_eq_left (by omega)]
theorem aH3 {l:List Jb} {k:Nat} {j:Jb} (h:l[k]? = some j):∃ A B,l = A ++ j::B∧A.length = k:=by
 obtain ⟨h1,rfl⟩:=List.getElem?_eq_some_iff.1 h
 refine ⟨l.take k,l.drop (k + 1),?_,?_⟩
 ·rw [←List.drop_eq_getElem_cons h1,List.take_append_drop]
 ·rw [List.length_take,Nat.min_eq_left (by omega)]
theorem aA3 {y0 y1 y0' y1':Hv} (h0:y0'.h = y0.h) (h1:y1'.h = y1.h):jk y0' y1' = jk y0 y1:=by
 funext j
 unfold jk z6
 rw [h0,h1]
theorem c9.add (h:c9 Y d tm) {S':QS} {y0' y1':Hv} {a:Nat} {cc:Nat} {q t da:Int} (hq:q = 0∨q = 1) (hat:d.cQ.at_ = some a)
  (hS:eB S' (Y.I ++ [⟨((a:Int),d.cQ.gen a),z6 Y.y0 Y.y1 q,cc,(t,d.next)⟩]) [y0',y1'] (tm + 1)) (h0:y0'.h = Y.y0.h) (h1:y1'.h = Y.y1.h) (k0:y0'.k = Y.y0.k) (k1:y1'.k = Y.y1.k) (hm:S'.most = Y.S.most) (hn:S'.next = Y.S.next + 1) (hip:S'.ip.pl = Y.S.ip.pl.take a 0) :
  c9 ⟨Y.K,S',Y.I ++ [⟨((a:Int),d.cQ.gen a),z6 Y.y0 Y.y1 q,cc,(t,d.next)⟩],y0',y1',Y.P.take z5 a (q,t,da,(a:Int),d.cQ.gen a),gB Y.oP ((a:Int),d.cQ.gen a) (some ((a:Int),d.cQ.gen a)),gB Y.wh ((a:Int),d.cQ.gen a) (some d.next),Y.now,Y.gI,Y.last,Y.top⟩
   { d with cQ:=d.cQ.take a 0,l:=d.l ++ [⟨q,da,t,d.next,(a:Int),d.cQ.gen a⟩],next:=d.next + 1 } (tm + 1):=by
 have hatP:Y.P.at_ = some a:=by rw [←PS.aIn,h.pk];exact hat
 have hg:d.cQ.gen a = Y.P.gen a:=by rw [←h.pk];exact (PS.aC0 _ hatP h.pok.lt).1
 have hg1:=PS.aCZ h.pg h.q.tm0 a
 obtain ⟨f1,f2⟩:=PS.aAq h.pok hatP z5 (q,t,da,(a:Int),d.cQ.gen a) hg1.1
 rw [←hg] at f1
 have hno:∀ j∈d.l,j.r≠((a:Int),d.cQ.gen a):=fun j hj e=>by
  have h1:=h.jf j hj
  have e1:j.at_ = (a:Int):=congrArg Prod.fst e
  have e2:j.gen = d.cQ.gen a:=congrArg Prod.snd e
  rw [e1,e2,h.pok.aDB hatP] at h1;cases h1
 have hnx:=h.q.nx
 have hnn:=h.nx
 refine ⟨hS,h.K3,k0.trans h.k0,k1.trans h.k1,?_,?_,hm.trans h.most,h.now,h.aBe,?_,?_,fun j hj=>?_,fun j hj=>?_,fun j hj=>?_,fun r x hx=>?_,fun j hj=>?_,fun b g v hv=>?_,?_,fun j hj=>?_⟩
 ·show (Y.P.take z5 a _).pl = d.cQ.take a 0
  rw [PS.aF4 _ _ _ hatP h.pok.lt,h.pk]
 ·show S'.ip.pl = d.cQ.take a 0
  rw [hip,h.ipk]
 ·show S'.next = d.next + 1
  omega
 ·show (Y.I ++ _).map ik = (d.l ++ _).map (jk y0' y1')
  rw [aA3 h0 h1,List.map_append,List.map_append,h.par];rfl
 ·rcases List.mem_append.1 hj with hj | hj
  ·exact h.qr j hj
  ·rw [List.mem_singleton.1 hj];exact hq
 ·rcases List.mem_append.1 hj with hj | hj
  ·exact f2 _ _ _ (h.jf j hj)
  ·rw [List.mem_singleton.1 hj];exact f1
 ·show gB Y.oP _ _ j.r = some j.r
  unfold gB
  rcases List.mem_append.1 hj with hj | hj
  ·rw [if_neg (hno j hj)];exact h.jb j hj
  ·rw [List.mem_singleton.1 hj];exact if_pos rfl
 ·have hx':gB Y.oP _ _ r = some x:=hx
  unfold gB at hx'
  split at hx'
  ·rename_i e
   exact ⟨_,List.mem_append_right _ List.mem_cons_self,e.symm⟩
  ·obtain ⟨j,hj,e⟩:=h.jb2 r x hx'
   exact ⟨j,List.mem_append_left _ hj,e⟩
 ·show gB Y.wh _ _ j.r = some j.zY
  unfold gB
  rcases List.mem_append.1 hj with hj | hj
  ·rw [if_neg (hno j hj)];exact h.jw j hj
  ·rw [List.mem_singleton.1 hj];exact if_pos rfl
 ·rcases PS.aBT h.pok hatP hv with ⟨e1,e2⟩ | hv
  ·exact ⟨_,List.mem_append_right _ List.mem_cons_self,e1.symm,by rw [e2,←hg]⟩
  ·obtain ⟨j,hj,e⟩:=h.lv b g v hv
   exact ⟨j,List.mem_append_left _ hj,e⟩
 ·rw [List.map_append,List.nodup_append]
  refine ⟨h.sn,by simp,fun u hu v hv e=>?_⟩
  obtain ⟨j,hj,rfl⟩:=List.mem_map.1 hu
  simp only [List.map_cons,List.map_nil,List.mem_singleton] at hv
  have:=h.sl j hj
  omega
 ·show 0≤j.zY∧j.zY < d.next + 1
  rcases List.mem_append.1 hj with hj | hj
  ·have:=h.sl j hj;omega
  ·rw [List.mem_singleton.1 hj]
   show 0≤d.next∧d.next < d.next + 1
   omega
theorem c9.out (h:c9 Y d tm) {A B:List Jb} {j:Jb} (hd:d.l = A ++ j::B) {IA IB:List nH} {x:nH} (hI:Y.I = IA ++ x::IB) (hA:IA.map ik = A.map (jk Y.y0 Y.y1)) (hB:IB.map ik = B.map (jk Y.y0 Y.y1)) {S':QS} {y0' y1':Hv}
  (hS:eB S' (IA ++ IB) [y0',y1'] (tm + 1)) (h0:y0'.h = Y.y0.h) (h1:y1'.h = Y.y1.h) (k0:y0'.k = Y.y0.k) (k1:y1'.k = Y.y1.k) (hm:S'.most = Y.S.most) (hn:S'.next = Y.S.next) (hip:S'.ip.pl = Y.S.ip.pl.gK j.at_.toNat) :
  c9 ⟨Y.K,S',IA ++ IB,y0',y1',Y.P.gK z5 j.at_.toNat,gB Y.oP j.r none,gB Y.wh j.r none,Y.now,Y.gI,Y.last,Y.top⟩ (d.out A.length) (tm + 1):=by
 have hdA:d.l[A.length]? = some j:=by rw [hd];simp
 have hout:d.out A.length = { d with l:=A ++ B,cQ:=d.cQ.gK j.at_.toNat }:=by
  unfold qL.out
  rw [hdA,hd,List.eraseIdx_append_of_length_le (Nat.le_refl _),Nat.sub_self]
  rfl
 have hjM:j∈d.l:=by rw [hd];simp
 have hold:∀ z∈A ++ B,z∈d.l:=fun z hz=>by rw [hd];rcases List.mem_append.1 hz with h | h <;> simp [h]
 have hrn:=h.rnd
 rw [hd,List.map_append,List.map_cons] at hrn
 obtain ⟨n1,n2,n3⟩:=kK hrn
 have eT:∀ z∈A ++ B,z.r≠j.r:=fun z hz e=>by
  rcases List.mem_append.1 hz with h | h
  ·exact n2 (List.mem_map.2 ⟨z,h,e⟩)
  ·exact n3 (List.mem_map.2 ⟨z,h,e⟩)
 obtain ⟨kj,kj1,kj2,kj3⟩:=PS.bK (h.jf j hjM)
 have hkj:j.at_.toNat = kj:=by rw [kj1,Int.toNat_natCast]
 have hat:∀ z∈A ++ B,z.at_≠(kj:Int):=fun z hz e=>by
  obtain ⟨kz,kz1,kz2,kz3⟩:=PS.bK (h.jf z (hold z hz))
  have:kz = kj:=by omega
  subst this
  rw [kz2] at kj2
  have hg:z.gen = j.gen:=by injection kj2 with kj2;injection kj2
  exact eT z hz (Prod.ext (by show z.at_ = j.at_;omega) hg)
 have hcas:∀ z∈d.l,z = j∨z∈A ++ B:=fun z hz=>by
  rw [hd] at hz
  rcases List.mem_append.1 hz with hz | hz
  ·exact .inr (List.mem_append_left _ hz)
  ·rcases List.mem_cons.1 hz with hz | hz
   ·exact .inl hz
   ·exact .inr (List.mem_append_right _ hz)
 rw [hout,hkj]
 refine ⟨hS,h.K3,k0.trans h.k0,k1.trans h.k1,?_,?_,hm.trans h.most,h.now,h.aBe,hn.trans h.nx,?_,fun z hz=>h.qr z (hold z hz),fun z hz=>?_,fun z hz=>?_,fun r x hx=>?_,fun z hz=>?_,fun b g v hv=>?_,?_,fun z hz=>h.sl z (hold z hz)⟩
 ·show (Y.P.gK z5 kj).pl = d.cQ.gK kj
  rw [PS.aDh _ _ (List.getElem?_eq_some_iff.1 kj2).1,h.pk]
 ·show S'.ip.pl = d.cQ.gK kj
  rw [hip,h.ipk,hkj]
 ·show (IA ++ IB).map ik = (A ++ B).map (jk y0' y1')
  rw [aA3 h0 h1,List.map_append,List.map_append,hA,hB]
 ·exact PS.xU z5 kj2 _ _ _ (hat z hz) (h.jf z (hold z hz))
 ·show gB Y.oP _ _ z.r = some z.r
  unfold gB
  rw [if_neg (eT z hz)];exact h.jb z (hold z hz)
 ·have hx':gB Y.oP _ _ r = some x:=hx
  unfold gB at hx'
  split at hx'
  ·cases hx'
  ·rename_i e
   obtain ⟨z,hz,e2⟩:=h.jb2 r x hx'
   rcases hcas z hz with rfl | hz
   ·exact absurd e2.symm e
   ·exact ⟨z,hz,e2⟩
 ·show gB Y.wh _ _ z.r = some z.zY
  unfold gB
  rw [if_neg (eT z hz)];exact h.jw z (hold z hz)
 ·obtain ⟨hb,hv⟩:=PS.aBS kj2 hv
  obtain ⟨z,hz,e1,e2⟩:=h.lv b g v hv
  rcases hcas z hz with rfl | hz
  ·exact absurd (e1.symm.trans kj1) hb
  ·exact ⟨z,hz,e1,e2⟩
 ·have:=h.sn
  rw [hd,List.map_append,List.map_cons] at this
  rw [List.map_append]
  exact (kK this).1
theorem c9.aLP (h:c9 Y d tm) {A B:List Jb} {j:Jb} (hd:d.l = A ++ j::B) {IA IB:List nH} {x:nH} {t:Int} (hI:Y.I = IA ++ x::IB) (hx1:x.r = j.r) (hx2:x.h = z6 Y.y0 Y.y1 j.queue) (hx3:x.e = j.e) (hA:IA.map ik = A.map (jk Y.y0 Y.y1)) (hB:IB.map ik = B.map (jk Y.y0 Y.y1)) {S':QS} {y0' y1':Hv}
  (hS:eB S' (IA ++ { x with e:=(t,x.e.2) }::IB) [y0',y1'] tm) (h0:y0'.h = Y.y0.h) (h1:y1'.h = Y.y1.h) (k0:y0'.k = Y.y0.k) (k1:y1'.k = Y.y1.k) (hm:S'.most = Y.S.most) (hn:S'.next = Y.S.next) (hip:S'.ip = Y.S.ip) :
  c9 ⟨Y.K,S',IA ++ { x with e:=(t,x.e.2) }::IB,y0',y1',Y.P.put j.at_.toNat (j.queue,t,j.data,j.at_,j.gen),Y.oP,Y.wh,Y.now,Y.gI,Y.last,Y.top⟩ { d with l:=d.l.set A.length { j with key:=t } } tm:=by
 have hset:d.l.set A.length { j with key:=t } = A ++ { j with key:=t }::B:=by
  rw [hd,List.set_append_right _ _ (Nat.le_refl _),Nat.sub_self];rfl
 have hjM:j∈d.l:=by rw [hd];simp
 have hold:∀ z∈A ++ B,z∈d.l:=fun z hz=>by rw [hd];rcases List.mem_append.1 hz with h | h <;> simp [h]
 have hrn:=h.rnd
 rw [hd,List.map_append,List.map_cons] at hrn
 obtain ⟨n1,n2,n3⟩:=kK hrn
 have eT:∀ z∈A ++ B,z.r≠j.r:=fun z hz e=>by
  rcases List.mem_append.1 hz with h | h
  ·exact n2 (List.mem_map.2 ⟨z,h,e⟩)
  ·exact n3 (List.mem_map.2 ⟨z,h,e⟩)
 obtain ⟨kj,kj1,kj2,kj3⟩:=PS.bK (h.jf j hjM)
 have hkj:j.at_.toNat = kj:=by rw [kj1,Int.toNat_natCast]
 have hat:∀ z∈A ++ B,z.at_≠j.at_:=fun z hz e=>by
  obtain ⟨kz,kz1,kz2,kz3⟩:=PS.bK (h.jf z (hold z hz))
  have:kz = kj:=by omega
  subst this
  rw [kz2] at kj2
  have hg:z.gen = j.gen:=by injection kj2 with kj2;injection kj2
  exact eT z hz (Prod.ext e hg)
 have hcas:∀ z∈A ++ { j with key:=t }::B,z = { j with key:=t }∨z∈A ++ B:=fun z hz=>by
  rcases List.mem_append.1 hz with hz | hz
  ·exact .inr (List.mem_append_left _ hz)
  ·rcases List.mem_cons.1 hz with hz | hz
   ·exact .inl hz
   ·exact .inr (List.mem_append_right _ hz)
 have hcas2:∀ z∈d.l,z = j∨z∈A ++ B:=fun z hz=>by
  rw [hd] at hz
  rcases List.mem_append.1 hz with hz | hz
  ·exact .inr (List.mem_append_left _ hz)
  ·rcases List.mem_cons.1 hz with hz | hz
   ·exact .inl hz
   ·exact .inr (List.mem_append_right _ hz)
 have hin:∀ z∈A ++ B,z∈A ++ { j with key:=t }::B:=fun z hz=>by rcases List.mem_append.1 hz with h | h <;> simp [h]
 obtain ⟨p1,p2⟩:=PS.aBF (j.queue,t,j.data,j.at_,j.gen) (h.jf j hjM)
 rw [hset]
 refine ⟨hS,h.K3,k0.trans h.k0,k1.trans h.k1,(PS.aLd _ _ _).trans h.pk,by rw [hip];exact h.ipk,hm.trans h.most,h.now,h.aBe,hn.trans h.nx,?_,fun z hz=>?_,fun z hz=>?_,fun z hz=>?_,fun r x hx=>?_,fun z hz=>?_,fun b g v hv=>?_,?_,fun z hz=>?_⟩
 ·show (IA ++ { x with e:=(t,x.e.2) }::IB).map ik = (A ++ { j with key:=t }::B).map (jk y0' y1')
  rw [aA3 h0 h1,List.map_append,List.map_append,List.map_cons,List.map_cons,hA,hB]
  congr 2
  show (x.r,x.h,(t,x.e.2)) = (j.r,z6 Y.y0 Y.y1 j.queue,(t,j.zY))
  rw [hx1,hx2,hx3];rfl
 ·rcases hcas z hz with rfl | hz
  ·exact h.qr j hjM
  ·exact h.qr z (hold z hz)
 ·rcases hcas z hz with rfl | hz
  ·exact p1
  ·exact p2 _ _ _ (hat z hz) (h.jf z (hold z hz))
 ·rcases hcas z hz with rfl | hz
  ·exact h.jb j hjM
  ·exact h.jb z (hold z hz)
 ·obtain ⟨z,hz,e2⟩:=h.jb2 r x hx
  rcases hcas2 z hz with rfl | hz
  ·exact ⟨_,List.mem_append_right _ List.mem_cons_self,e2⟩
  ·exact ⟨z,hin z hz,e2⟩
 ·rcases hcas z hz with rfl | hz
  ·exact h.jw j hjM
  ·exact h.jw z (hold z hz)
 ·obtain ⟨w',hv⟩:=PS.aDs (by rw [hkj];exact kj2) hv
  obtain ⟨z,hz,e2⟩:=h.lv b g w' hv
  rcases hcas2 z hz with rfl | hz
  ·exact ⟨_,List.mem_append_right _ List.mem_cons_self,e2⟩
  ·exact ⟨z,hin z hz,e2⟩
 ·have:=h.sn
  rw [hd] at this
  simp only [List.map_append,List.map_cons] at this ⊢
  exact this
 ·rcases hcas z hz with rfl | hz
  ·exact h.sl j hjM
  ·exact h.sl z (hold z hz)
theorem c9.go (h:c9 Y d tm) {n:Int} (hn:gC n):c9 { Y with now:=n } { d with now:=n } tm :=
 ⟨h.q,h.K3,h.k0,h.k1,h.pk,h.ipk,h.most,rfl,hn,h.nx,h.par,h.qr,h.jf,h.jb,h.jb2,h.jw,h.lv,h.sn,h.sl⟩
theorem c9.v9 (h:c9 Y d tm) {tm':Int} (ht:tm≤tm'):c9 Y d tm' :=
 ⟨h.q.v9 ht,h.K3,h.k0,h.k1,h.pk,h.ipk,h.most,h.now,h.aBe,h.nx,h.par,h.qr,h.jf,h.jb,h.jb2,h.jw,h.lv,h.sn,h.sl⟩
end
end HL
namespace HL
theorem aKb {β:Type} [DecidableEq β] {a b:List β} (ha:a.Nodup) (hb:b.Nodup) (h:∀ x,x∈a↔x∈b):a.Perm b:=by
 rw [List.perm_iff_count]
 intro x
 rw [ha.count,hb.count]
 by_cases hx:x∈a
 ·rw [if_pos hx,if_pos ((h x).1 hx)]
 ·rw [if_neg hx,if_neg fun hb=>hx ((h x).2 hb)]
theorem aDw {l:List Jb} {q:Int} (h:pW l q = none):∀ j∈l,j.queue≠q:=(aAB h).2
section
variable {Y:yK} {d:qL} {tm:Int}
theorem c9.aDW (h:c9 Y d tm) {j:Jb} (hj:j∈d.l):(j.at_,j.gen)∈Y.P.refs:=by
 obtain ⟨k,q1,q2,q3⟩:=PS.bK (h.jf j hj)
 refine rE.2 ⟨k,_,q2,rfl,?_⟩
 simp [q1]
theorem c9.aFA (h:c9 Y d tm):Y.P.refs.Perm (d.l.map Jb.r):=by
 refine aKb ?_ h.rnd fun r=>⟨fun hr=>?_,fun hr=>?_⟩
 ·exact (z4 Y.P.l 0).imp fun hlt e=>by rw [e] at hlt;omega
 ·obtain ⟨v,hv⟩:=yE h.pg1 hr
  obtain ⟨j,hj,e1,e2⟩:=h.lv _ _ _ hv
  exact List.mem_map.2 ⟨j,hj,Prod.ext e1 e2⟩
 ·obtain ⟨j,hj,rfl⟩:=List.mem_map.1 hr
  exact h.aDW hj
theorem c9.cnt (h:c9 Y d tm) (q:Int):aAE Y.P q Y.P.refs = iR q d.l:=by
 unfold aAE iR
 rw [h.aFA.countP_eq,List.countP_map]
 refine List.countP_congr fun j hj=>?_
 have:qOf Y.P j.r = j.queue:=by
  unfold qOf
  rw [show Y.P.find j.r.1 j.r.2 = some j.v5 from h.jf j hj];rfl
 simp [this]
theorem c9.aFt (h:c9 Y d tm) {q:Int} (hq:q = 0∨q = 1) (hf:pW d.l q = none):eD Y.I (z6 Y.y0 Y.y1 q) = []:=by
 unfold eD
 rw [List.map_eq_nil_iff,List.filter_eq_nil_iff]
 intro x hx e
 obtain ⟨j,hj,_,e2,_⟩:=h.aFQ hx
 have e3:x.h = z6 Y.y0 Y.y1 q:=by simpa using e
 exact aDw hf j hj (aF8 h (h.qr j hj) hq (e2.symm.trans e3))
theorem c9.first (h:c9 Y d tm) {q:Int} (hq:q = 0∨q = 1) {x:Nat × bR} (hf:pW d.l q = some x):∃ j A B,d.l = A ++ j::B∧A.length = x.1∧j.queue = q∧x.2 = j.e∧eD Y.I (z6 Y.y0 Y.y1 q)≠[] ∧
  ∀ z∈Y.I,z.h = z6 Y.y0 Y.y1 q→(∀ w∈Y.I,w.h = z6 Y.y0 Y.y1 q→w.c≠z.c→Bf z.held w.held)→z.r = j.r∧z.e = j.e:=by
 obtain ⟨j,hj,hjq,hje,hleast⟩:=aAA hf
 obtain ⟨A,B,hd,hA⟩:=aH3 hj
 obtain ⟨IA,w,IB,hI,_,hw1,hw2,hw3,_⟩:=h.split hd
 have hwI:w∈Y.I:=by rw [hI];simp
 rw [hjq] at hw2
 refine ⟨j,A,B,hd,hA,hjq,hje,fun e=>?_,fun z hz hzh hz2=>?_⟩
 ·have:w.held∈eD Y.I (z6 Y.y0 Y.y1 q):=q8.2 ⟨w,hwI,hw2,rfl⟩
  rw [e] at this;cases this
 ·by_cases hc:w.c = z.c
  ·have:w = z:=yI h.q.icd w hwI z hz hc
   rw [←this]
   exact ⟨hw1,hw3⟩
  ·obtain ⟨jz,hjz,e1,e2,e3⟩:=h.aFQ hz
   have hqz:jz.queue = q:=aF8 h (h.qr jz hjz) hq (e2.symm.trans hzh)
   rcases hz2 w hwI hw2 hc with hlt | ⟨he,_⟩
   ·have hlt':Lt z.e w.e:=hlt
    rw [e3,hw3] at hlt'
    exact absurd hlt' (hleast jz hjz hqz)
   ·have he':z.e = w.e:=he
    rw [e3,hw3] at he'
    have hser:jz.zY = j.zY:=congrArg Prod.snd he'
    have:jz = j:=yI h.sn jz hjz j (by rw [hd];simp) hser
    rw [e1,e3,this];exact ⟨rfl,rfl⟩
def mvJ (j:Jb):Jb:=if j.queue = 1 then { j with queue:=0 } else j
theorem wD (j:Jb):(mvJ j).r = j.r∧(mvJ j).e = j.e∧(mvJ j).zY = j.zY∧(mvJ j).at_ = j.at_∧(mvJ j).gen = j.gen:=by
 unfold mvJ;split <;> exact ⟨rfl,rfl,rfl,rfl,rfl⟩
theorem c9.merge (h:c9 Y d tm) {S2:QS} {y0' y1':Hv} (hS:eB S2 (Y.I.map (vX Y.y1.h Y.y0.h)) [y0',y1'] (tm + 1)) (h0:y0'.h = Y.y0.h) (k0:y0'.k = Y.y0.k) (k1:y1'.k = Y.y1.k) (hm:S2.most = Y.S.most) (hn:S2.next = Y.S.next) (hip:S2.ip.pl = Y.S.ip.pl) :
  c9 ⟨Y.K,S2,Y.I.map (vX Y.y1.h Y.y0.h),y0',y1',yV Y.P Y.P.refs 1 0,Y.oP,Y.wh,Y.now,Y.gI,Y.last,Y.top⟩ { d with l:=d.l.map fun j=>if j.queue = 1 then { j with queue:=0 } else j } (tm + 1):=by
 have hmv:(d.l.map fun j=>if j.queue = 1 then { j with queue:=0 } else j) = d.l.map mvJ:=rfl
 rw [hmv]
 have eT:=h.eT
 refine ⟨hS,h.K3,k0.trans h.k0,k1.trans h.k1,(aLh _ _ _ _).trans h.pk,hip.trans h.ipk,hm.trans h.most,h.now,h.aBe,hn.trans h.nx,?_,fun z hz=>?_,fun z hz=>?_,fun z hz=>?_,fun r x hx=>?_,fun z hz=>?_,fun b g v hv=>?_,?_,fun z hz=>?_⟩
 ·show (Y.I.map (vX Y.y1.h Y.y0.h)).map ik = (d.l.map mvJ).map (jk y0' y1')
  have hp:=congrArg (List.map fun x:dN × dN × bR=>(x.1,(if x.2.1 = Y.y1.h then Y.y0.h else x.2.1),x.2.2)) h.par
  rw [List.map_map,List.map_map] at hp ⊢
  refine Eq.trans ?_ (hp.trans ?_)
  ·refine List.map_congr_left fun x _=>?_
   show ik (vX Y.y1.h Y.y0.h x) = (x.r,(if x.h = Y.y1.h then Y.y0.h else x.h),x.e)
   unfold ik vX
   split <;> rfl
  ·refine List.map_congr_left fun j hj=>?_
   show (j.r,(if z6 Y.y0 Y.y1 j.queue = Y.y1.h then Y.y0.h else z6 Y.y0 Y.y1 j.queue),j.e) = ((mvJ j).r,z6 y0' y1' (mvJ j).queue,(mvJ j).e)
   rw [(wD j).1,(wD j).2.1]
   rcases h.qr j hj with e | e
   ·have:(mvJ j).queue = 0:=by unfold mvJ;rw [if_neg (by omega)];exact e
    rw [this,e]
    unfold z6
    rw [if_pos rfl,if_pos rfl,if_neg eT,h0]
   ·have:(mvJ j).queue = 0:=by unfold mvJ;rw [if_pos e]
    rw [this,e]
    simp [z6,h0]
 ·obtain ⟨j,hj,rfl⟩:=List.mem_map.1 hz
  unfold mvJ
  split
  ·exact .inl rfl
  ·exact h.qr j hj
 ·obtain ⟨j,hj,rfl⟩:=List.mem_map.1 hz
  rw [(wD j).2.2.2.1,(wD j).2.2.2.2]
  show (yV _ _ _ _).find _ _ = _
  rw [aBu (h.jf j hj)]
  unfold mvJ
  by_cases e:j.queue = 1
  ·rw [if_pos ⟨h.aDW hj,e⟩,if_pos e];rfl
  ·rw [if_neg (fun hh=>e hh.2),if_neg e]
 ·obtain ⟨j,hj,rfl⟩:=List.mem_map.1 hz
  rw [(wD j).1];exact h.jb j hj
 ·obtain ⟨j,hj,e⟩:=h.jb2 r x hx
  exact ⟨_,List.mem_map.2 ⟨j,hj,rfl⟩,by rw [(wD j).1];exact e⟩
 ·obtain ⟨j,hj,rfl⟩:=List.mem_map.1 hz
  rw [(wD j).1,(wD j).2.2.1];exact h.jw j hj
 ·obtain ⟨w',hv⟩:=aDo hv
  obtain ⟨j,hj,e1,e2⟩:=h.lv b g w' hv
  exact ⟨_,List.mem_map.2 ⟨j,hj,rfl⟩,by rw [(wD j).2.2.2.1];exact e1,by rw [(wD j).2.2.2.2];exact e2⟩
 ·have:=h.sn
  rw [List.map_map]
  have e:(Jb.zY ∘ mvJ) = Jb.zY:=funext fun j=>(wD j).2.2.1
  show (d.l.map (Jb.zY ∘ mvJ)).Nodup
  rw [e];exact this
 ·obtain ⟨j,hj,rfl⟩:=List.mem_map.1 hz
  rw [(wD j).2.2.1];exact h.sl j hj
end
end HL
namespace HL
section
variable {w0:World} {F M:Mem}
theorem aA.yT {X A B C D E G H Q:cI} (h:aA w0 F M (star X (star A (star B (star C (star D (star E (star G (star H Q))))))))):aA w0 F M (star A (star B (star C (star D (star E (star G (star H (star X Q)))))))) :=
 h.dY.oG fun _ _ h=>h.dY.oG fun _ _ h=>h.dY.oG fun _ _ h=>h.dY.oG fun _ _ h=>h.dY.oG fun _ _ h=>h.dY.oG fun _ _ h=>h.dY
theorem aA.w9 {X A B C D E G H Q:cI} (h:aA w0 F M (star A (star B (star C (star D (star E (star G (star H (star X Q))))))))):aA w0 F M (star X (star A (star B (star C (star D (star E (star G (star H Q)))))))) :=
 (h.oG fun _ _ h=>(h.oG fun _ _ h=>(h.oG fun _ _ h=>(h.oG fun _ _ h=>(h.oG fun _ _ h=>(h.oG fun _ _ h=>h.dY).dY).dY).dY).dY).dY).dY
end
abbrev tDi:TypeId:=125
abbrev aDp:TypeId:=202
structure vP where
 d:Nat
 q:Nat
 a:Nat
 t:Nat
 bh:Nat
 bi:Nat
 me:Nat
 ma:Nat
 jt:Nat
 pj:Nat
 mb:Nat
 mw:Nat
 bc:Nat
abbrev dV (X:vP) (K most:Int) (r0 r1:dN) (b l tp:Int):List Value :=
 [.int .i64 K,.int .i64 most,.pointer (some ⟨X.q,0,none⟩),.int .i64 r0.1,.int .i64 r0.2,.int .i64 r1.1,.int .i64 r1.2,.pointer (some ⟨X.jt,0,none⟩),.map (some X.mw),.pointer (some ⟨X.bc,0,none⟩),.int .i64 b,.int .i64 l,.int .i64 tp]
abbrev DB (X:vP) (S:QS) (P:PS V5) (now K most:Int) (r0 r1:dN) (b l tp:Int) (Q:cI):cI :=
 QA X.q X.a X.t X.bh X.bi X.me S (star (pR X.pj P) (star (bA X.bc [.int .i64 now] aDp) (star (bA X.d (dV X K most r0 r1 b l tp) tDi) Q)))
abbrev DO (X:vP) (oa oe ob ow:Obj) (os:vA):vA:=(X.ma,oa)::(X.me,oe)::(X.mb,ob)::(X.mw,ow)::os
def jR (w0:World) (F M:Mem) (os:vA) (X:vP) (Y:yK) (Q:cI):Prop :=
 ∃ oa oe ob ow,dM (Value.int .i64) bZ Y.S.at_ oa∧dM bZ mK Y.S.en oe∧dM bZ bZ Y.oP ob∧dM bZ (Value.int .i64) Y.wh ow∧HO w0 F M (DO X oa oe ob ow os) (DB X Y.S Y.P Y.now Y.K Y.S.most Y.y0.h Y.y1.h Y.gI Y.last Y.top Q)
structure wH (w0:World) (F:Mem) (X:vP):Prop where
 t:cS w0 F X.t (x4 X.bh X.bi X.ma) x5
 j:cS w0 F X.jt (jtV X.pj X.mb) tJt
theorem wH.le {w0:World} {F F':Mem} {X:vP} (h:wH w0 F X) (hl:Mem.le F F'):wH w0 F' X:=⟨h.t.le hl,h.j.le hl⟩
section
variable {w0:World} {F M:Mem} {R:VP} {os:vA} {X:vP} {Y:yK} {S:QS} {P:PS V5} {Q:cI} {now K most b l tp:Int} {r0 r1:dN} {oa oe ob ow:Obj} {d:qL} {tm:Int} {c:tW}
theorem HO.di (h:HO w0 F M os (DB X S P now K most r0 r1 b l tp Q)):cS w0 M X.d (dV X K most r0 r1 b l tp) tDi:=h.h.right.right.right.right.right.right.bC
theorem HO.ck (h:HO w0 F M os (DB X S P now K most r0 r1 b l tp Q)):cS w0 M X.bc [.int .i64 now] aDp:=h.h.right.right.right.right.right.bC
theorem D0 (o:cS w0 M X.d (dV X K most r0 r1 b l tp) tDi):(aJ PP w0).ld 3 ⟨X.d,0,none⟩ M = some (.int .i64 K):=mB W.c3 o rfl
theorem D1 (o:cS w0 M X.d (dV X K most r0 r1 b l tp) tDi):(aJ PP w0).ld 3 ⟨X.d,1,none⟩ M = some (.int .i64 most):=mB W.c3 o rfl
theorem D2 (o:cS w0 M X.d (dV X K most r0 r1 b l tp) tDi):(aJ PP w0).ld 24 ⟨X.d,2,none⟩ M = some (.pointer (some ⟨X.q,0,none⟩)):=mB (by kernel_rfl) o rfl
theorem D7 (o:cS w0 M X.d (dV X K most r0 r1 b l tp) tDi):(aJ PP w0).ld 121 ⟨X.d,7,none⟩ M = some (.pointer (some ⟨X.jt,0,none⟩)):=mB (by kernel_rfl) o rfl
theorem D8 (o:cS w0 M X.d (dV X K most r0 r1 b l tp) tDi):(aJ PP w0).ld 122 ⟨X.d,8,none⟩ M = some (.map (some X.mw)):=mB (by kernel_rfl) o rfl
theorem D9 (o:cS w0 M X.d (dV X K most r0 r1 b l tp) tDi):(aJ PP w0).ld 123 ⟨X.d,9,none⟩ M = some (.pointer (some ⟨X.bc,0,none⟩)):=mB (by kernel_rfl) o rfl
theorem D3 (o:cS w0 M X.d (dV X K most r0 r1 b l tp) tDi):(aJ PP w0).ld 33 ⟨X.d,3,none⟩ M = some (.agg #[.int .i64 r0.1,.int .i64 r0.2]):=kZ (o:=3) (vs:=[.int .i64 r0.1,.int .i64 r0.2]) a9 o (q9 rfl rfl)
theorem D5 (o:cS w0 M X.d (dV X K most r0 r1 b l tp) tDi):(aJ PP w0).ld 33 ⟨X.d,5,none⟩ M = some (.agg #[.int .i64 r1.1,.int .i64 r1.2]):=kZ (o:=5) (vs:=[.int .i64 r1.1,.int .i64 r1.2]) a9 o (q9 rfl rfl)
theorem D35 {y0 y1:Hv} {q:Int} (hq:q = 0∨q = 1) (o:cS w0 M X.d (dV X K most y0.h y1.h b l tp) tDi):(aJ PP w0).ld 33 ⟨X.d,3 + q.toNat * 2,none⟩ M = some (.agg #[.int .i64 (z6 y0 y1 q).1,.int .i64 (z6 y0 y1 q).2]):=by
 rcases hq with rfl | rfl
 ·exact D3 o
 ·exact D5 o
theorem lQ:gV PP iQ 6 = true:=W.g65
theorem iJ (r:fG):∀ v∈r.cells,bS v = true:=by
 intro v hv
 simp only [fG.cells,List.mem_cons,List.not_mem_nil,or_false] at hv
 rcases hv with rfl | rfl | rfl | rfl | rfl | rfl <;> rfl
theorem aDE {α:Type} (x y a:α) (l:List α):(x::y::a::l).Perm (a::x::y::l):=List.perm_middle (l₁:=[x,y])
theorem aD4 {α:Type} (x y z a:α) (l:List α):(x::y::z::a::l).Perm (a::x::y::z::l):=List.perm_middle (l₁:=[x,y,z])
theorem HO.toJ (h:HO w0 F M (DO X oa oe ob ow os) (DB X S P now K most r0 r1 b l tp Q)):HO w0 F M ((X.mb,ob)::(X.ma,oa)::(X.me,oe)::(X.mw,ow)::os) (star (pR X.pj P) (QA X.q X.a X.t X.bh X.bi X.me S (star (bA X.bc [.int .i64 now] aDp) (star (bA X.d (dV X K most r0 r1 b l tp) tDi) Q)))) :=
 (h.perm (aDE _ _ _ _)).aX aA.up
theorem HO.ofJ (h:HO w0 F M ((X.mb,ob)::(X.ma,oa)::(X.me,oe)::(X.mw,ow)::os) (star (pR X.pj P) (QA X.q X.a X.t X.bh X.bi X.me S (star (bA X.bc [.int .i64 now] aDp) (star (bA X.d (dV X K most r0 r1 b l tp) tDi) Q))))):HO w0 F M (DO X oa oe ob ow os) (DB X S P now K most r0 r1 b l tp Q) :=
 (h.aX aA.dp).perm (aDE _ _ _ _).symm
theorem aCR {A:cI} {v:V5} (h:HO w0 F M os A) (hK:∀ M',HO w0 F M' os A→R (fG.v { time:=v.2.1,data:=v.2.2.1 }) M'):C PP w0 Id.fT #[nU v] R M:=by
 obtain ⟨v1,v2,v3,v4,v5⟩:=v
 apply fT.go
 unfold fT.T aH
 refine sZ h fun b1 F1 M1 l1 lm1 o1 h1=>?_
 refine jQ h1 fun b3 M2 lm2 h2=>?_
 simp only [add_eq,Nat.zero_add,mB W.c2 (o1.le h2.fr) (o:=1) rfl,mB W.c3 (o1.le h2.fr) (o:=2) rfl,aC,aL,aLs,aZ,aW,aU]
 refine jV (vs:=(fG.mk 0 0 0 v2 v3 0).cells) lQ (by rfl) (iJ _) h2 fun M3 h3=>?_
 exact hK M3 (h3.fO l1)
theorem p9 {A:cI} {why:Int} (h:HO w0 F M os A) (hK:∀ M',HO w0 F M' os A→R (fG.v { why:=why }) M'):C PP w0 Id.cG #[.int .i64 why] R M:=by
 apply cG.go
 unfold cG.T aH
 refine jQ h fun b1 M1 lm1 h1=>?_
 simp only [bR0,aC,aL,aZ,aW,aU]
 refine jV (vs:=(fG.mk why 0 0 0 0 0).cells) lQ (by rfl) (iJ _) h1 fun M2 h2=>?_
 exact hK M2 h2
theorem pick {y0 y1:Hv} {q:Int} (hq:q = 0∨q = 1):∃ A y B,[y0,y1] = A ++ y::B∧y.h = z6 y0 y1 q∧∀ y':Hv,y'.h = y.h→y'.k = y.k→∃ y0' y1',A ++ y'::B = [y0',y1']∧y0'.h = y0.h∧y1'.h = y1.h∧y0'.k = y0.k∧y1'.k = y1.k:=by
 rcases hq with rfl | rfl
 ·exact ⟨[],y0,[y1],rfl,rfl,fun y' e1 e2=>⟨y',y1,rfl,e1,rfl,e2,rfl⟩⟩
 ·exact ⟨[y0],y1,[],rfl,rfl,fun y' e1 e2=>⟨y0,y',rfl,rfl,e1,rfl,e2⟩⟩
structure tP (Y Y':yK) (k:Int):Prop where
 b:Y'.gI = Y.gI
 l:Y'.last = Y.last
 t:Y'.top = Y.top
 s:rS Y.S Y'.S k
theorem c9.room (h:c9 Y d tm):(d.cQ.at_ = none↔d.most≤(d.l.length:Int))∧∀ i,d.cQ.at_ = some i→Y.P.at_ = some i∧Y.S.ip.at_ = some i∧Y.P.gen i = d.cQ.gen i∧Y.S.ip.gen i = d.cQ.gen i:=by
 obtain ⟨e1,e2,e3,e4,e5⟩:=h.wL
 have ha:d.cQ.at_ = Y.P.at_:=by rw [←h.pk,PS.aIn]
 have hb:d.cQ.at_ = Y.S.ip.at_:=by rw [←h.ipk,PS.aIn]
 refine ⟨?_,fun i hi=>⟨ha.symm.trans hi,hb.symm.trans hi,?_,?_⟩⟩
 ·rw [ha]
  unfold PS.at_
  cases hl:Y.P.free.getLast? with
  | some a =>
   have:Y.P.free≠[]:=fun e=>by rw [e] at hl;cases hl
   have:=List.length_pos_iff.2 this
   simp only [reduceCtorEq,false_iff]
   omega
  | none =>
   have hf:Y.P.free = []:=List.getLast?_eq_none_iff.1 hl
   rw [hf] at e1
   simp only [List.length_nil] at e1
   simp only
   split
   ·simp only [true_iff];omega
   ·simp only [reduceCtorEq,false_iff];omega
 ·rw [←h.pk];exact (PS.aC0 _ (ha.symm.trans hi) h.pok.lt).1.symm
 ·rw [←h.ipk];exact (PS.aC0 _ (hb.symm.trans hi) h.q.io.lt).1.symm
theorem aAD {c:tW} (hq:c.queue = 0∨c.queue = 1):¬ tA c:=by
 rintro ⟨_,h⟩;omega
theorem aCD {k:Int} {h:dN} {t:Int}:(aJ PP w0).oF aBv [(0,.int .i64 k),(2,.agg #[.int .i64 h.1,.int .i64 h.2]),(5,.int .i64 t)] = some (.agg (nK k 0 h.1 h.2 0 0 0 0 t).toArray):=by kernel_rfl
theorem tP.aC2 {k:Int} (hk:0≤k):tP Y Y k:=⟨rfl,rfl,rfl,fun h0=>by omega⟩
theorem jR.of {Y':yK} (hfa:dM (Value.int .i64) bZ Y'.S.at_ oa) (hfe:dM bZ mK Y'.S.en oe) (hfb:dM bZ bZ Y'.oP ob) (hfw:dM bZ (Value.int .i64) Y'.wh ow) (h:HO w0 F M (DO X oa oe ob ow os) (DB X Y'.S Y'.P Y'.now Y'.K most r0 r1 Y'.gI Y'.last Y'.top Q)) (em:Y'.S.most = most) (e0:Y'.y0.h = r0) (e1:Y'.y1.h = r1):jR w0 F M os X Y' Q:=by
 subst em e0 e1
 exact ⟨oa,oe,ob,ow,hfa,hfe,hfb,hfw,h⟩
theorem c9.fresh (h:c9 Y d tm) {i:Nat} (hat:d.cQ.at_ = some i):Y.oP ((i:Int),d.cQ.gen i) = none:=by
 cases e:Y.oP ((i:Int),d.cQ.gen i) with
 | none=>rfl
 | some x =>
  obtain ⟨j,hj,hr⟩:=h.jb2 _ _ e
  have h1:=h.jf j hj
  have e1:j.at_ = (i:Int):=congrArg Prod.fst hr
  rw [e1,h.pok.aDB (h.room.2 i hat).1] at h1;cases h1
theorem aD3 (hX:wH w0 F X) (hD:jR w0 F M os X Y Q) (hv:c9 Y d tm) (htm:tm≤900000) (hk:c.kind = 1) (hq:c.queue = 0∨c.queue = 1)
  (hK:∀ M' Y',jR w0 F M' os X Y' Q→c9 Y' (gJ d c).1 (tm + 1)→tP Y Y' (3 + dO (d.l.length + 1))→R (gJ d c).2.v M') :
  C PP w0 Id.iH #[.pointer (some ⟨X.d,0,none⟩),c.v] R M:=by
 obtain ⟨oa,oe,ob,ow,hfa,hfe,hfb,hfw,h⟩:=hD
 obtain ⟨ck,cq,ca,cg,ct,cd⟩:=c
 simp only at hk hq
 subst hk
 apply iH.go
 unfold iH.T aH
 refine sZ h fun b1 F1 M1 l1 lm1 o1 h1=>?_
 have hX1:=hX.le l1
 refine jQ h1 fun b3 M2 lm2 h2'=>?_
 have h2:=h2'.aX aA.yT
 obtain ⟨e1,e2,e3,e4,e5⟩:=hv.wL
 simp (config:={ maxSteps:=10000000 }) only [aT,add_eq,Nat.zero_add,D7 h2.di,D1 h2.di,aC,bN,aL]
 refine aGg hX1.j h2.toJ (by omega) (by omega) ?_
 rw [aL]
 refine ⟨D1 h2.di,?_⟩
 rw [cR]
 rw [aDg (aAD hq) rfl] at hK
 obtain ⟨r1,r2⟩:=hv.room
 have hnl:(Y.P.l.length - Y.P.free.length:Nat) = d.l.length:=by omega
 have hmo:=hv.most
 cases hat:d.cQ.at_ with
 | none =>
  rw [hat] at hK
  rw [if_pos (by have:=r1.1 hat;omega)]
  refine p9 h2 fun M3 h3=>?_
  simp only [fG.v,aZ,aW,aL,aU]
  refine jV (vs:=(fG.mk 13 0 0 0 0 0).cells) lQ (by rfl) (iJ _) (h3.aX aA.w9) fun M4 h4=>?_
  exact hK M4 Y ⟨oa,oe,ob,ow,hfa,hfe,hfb,hfw,h4.fO l1⟩ (hv.v9 (by omega)) (tP.aC2 (by unfold dO;omega))
 | some i =>
  rw [hat] at hK
  have hlen:(d.l.length:Int) < d.most:=by
   by_cases hh:d.most≤(d.l.length:Int)
   ·have:=r1.2 hh;rw [hat] at this;cases this
   ·omega
  rw [if_neg (by omega)]
  obtain ⟨hP1,hP2,hP3,hP4⟩:=r2 i hat
  have hc1:∀ {M':Mem} {e:TypeId},cS w0 M' b1 [.int .i64 1,.int .i64 cq,.int .i64 ca,.int .i64 cg,.int .i64 ct,.int .i64 cd] e→(aJ PP w0).ld 3 ⟨b1,1,none⟩ M' = some (.int .i64 cq):=fun o=>mB W.c3 o rfl
  have hc4:∀ {M':Mem} {e:TypeId},cS w0 M' b1 [.int .i64 1,.int .i64 cq,.int .i64 ca,.int .i64 cg,.int .i64 ct,.int .i64 cd] e→(aJ PP w0).ld 2 ⟨b1,4,none⟩ M' = some (.int .i64 ct):=fun o=>mB W.c2 o rfl
  have hc5:∀ {M':Mem} {e:TypeId},cS w0 M' b1 [.int .i64 1,.int .i64 cq,.int .i64 ca,.int .i64 cg,.int .i64 ct,.int .i64 cd] e→(aJ PP w0).ld 3 ⟨b1,5,none⟩ M' = some (.int .i64 cd):=fun o=>mB W.c3 o rfl
  simp only [D2 h2.di,hc1 (o1.le h2.fr),aC,bN,aL]
  refine ⟨⟨by omega,by omega⟩,?_⟩
  simp only [D35 hq h2.di,hc4 (o1.le h2.fr),aC,aL,aZ,aW,aU,aCD]
  obtain ⟨A,y,B,hAB,hyh,hrep⟩:=pick (y0:=Y.y0) (y1:=Y.y1) hq
  have hvq:=hv.q
  rw [hAB] at hvq
  have hIl:=hv.len
  rw [←hyh]
  refine ⟨?_,?_⟩
  rotate_left
  refine jQ h2 fun b4 M3 lm3 h3=>?_
  have o3:=(h3.aX fun h=>h.right).di
  refine ⟨D2 o3,hc1 (o1.le h3.fr),(by rw [hyh];exact D35 hq o3),hc4 (o1.le h3.fr),?_⟩
  refine vT hX1.t hvq htm (by omega) hfa hfe (h3.aX aA.yT) fun M4 S' oa' oe' i' y' hat' hfa' hfe' h4' ey1 ey2 hv' em en eip hst=>?_
  obtain rfl:i' = i:=by rw [hP2] at hat';cases hat';rfl
  have h4:=h4'.aX aA.w9
  simp only [aZ,aW,aL,aU]
  refine xQ (vs:=lL 0 0 0 i' (Y.S.ip.gen i') ct Y.S.next 0) qM (by rfl) eC h4 fun F5 M5 l5 o5 h5=>?_
  rotate_left
  refine vT hX1.t hvq htm (by omega) hfa hfe h2 fun M4 S' oa' oe' i' y' hat' hfa' hfe' h4 ey1 ey2 hv' em en eip hst=>?_
  obtain rfl:i' = i:=by rw [hP2] at hat';cases hat';rfl
  simp only [aZ,aW,aL,aU]
  refine kC (vs:=lL 0 0 0 i' (Y.S.ip.gen i') ct Y.S.next 0) qM (by rfl) eC h4 fun b4 F5 M5 l5 o5 h5=>?_
  all_goals
   obtain ⟨cc,hv'⟩:=hv'
   rw [hP4] at o5 hv'
   rw [hyh,hv.nx] at hv'
   have hX5:=hX1.le l5
   have o15:=o1.le l5
   have hbj:(aJ PP w0).oF tJo [(0,.int .i64 cq),(1,.int .i64 ct),(2,.int .i64 cd),(3,.agg #[.int .i64 (i':Int),.int .i64 (d.cQ.gen i')])] = some (.agg #[.int .i64 cq,.int .i64 ct,.int .i64 cd,.int .i64 (i':Int),.int .i64 (d.cQ.gen i')]):=by kernel_rfl
   simp only [hc1 (o15.le h5.fr),hc4 (o15.le h5.fr),hc5 (o15.le h5.fr),kZ (o:=3) (vs:=[.int .i64 (i':Int),.int .i64 (d.cQ.gen i')]) a9 (o5.le h5.fr) (q9 rfl rfl),aC,aL,aZ,aW,aU,hbj]
   refine kC (vs:=j9 (cq,ct,cd,(i':Int),d.cQ.gen i')) fS (by rfl) (dH _) h5 fun b5 F6 M6 l6 o6 h6=>?_
   have hX6:=hX5.le l6
   have o56:=o5.le l6
   have hl3:=hv.pg
   have hgP:∀ x∈Y.P.l,0≤x.g∧x.g≤1000000:=fun x hx=>by have:=hv.pg x hx;omega
   have hro:((Y.P.l.length - Y.P.free.length:Nat):Int)≠Y.P.most:=by omega
   simp only [D7 h6.di,fF (vs:=j9 (cq,ct,cd,(i':Int),d.cQ.gen i')) fS (o6.le h6.fr),aC,bN,aL,aZ,aW,aU]
   refine ⟨?_,?_⟩
   rotate_left
   refine jQ h6 fun b7 M7' lm7 h7'=>?_
   have o7':=(h7'.aX fun h=>h.right).di
   refine ⟨D7 o7',fF (vs:=j9 (cq,ct,cd,(i':Int),d.cQ.gen i')) fS (o6.le h7'.fr),?_⟩
   refine aFP (v:=(cq,ct,cd,(i':Int),d.cQ.gen i')) hX6.j (h7'.aX aA.yT).toJ hfb hv.pok (by omega) (by omega) (by omega) hgP hP1 hro (hv.fresh hat) fun M7 ob' hfb' h8'=>?_
   rw [hP3] at hfb' ⊢
   have h8:=h8'.ofJ.aX aA.w9
   simp only [cD,aZ,aW,aL,aU]
   refine xQ a9 (by rfl) iS h8 fun F9 M9 l9 o9 h9=>?_
   rotate_left
   refine aFP (v:=(cq,ct,cd,(i':Int),d.cQ.gen i')) hX6.j h6.toJ hfb hv.pok (by omega) (by omega) (by omega) hgP hP1 hro (hv.fresh hat) fun M7 ob' hfb' h8'=>?_
   rw [hP3] at hfb' ⊢
   have h8:=h8'.ofJ
   simp only [cD,aZ,aW,aL,aU]
   refine kC a9 (by rfl) iS h8 fun b7 F9 M9 l9 o9 h9=>?_
   all_goals
    simp only [D8 h9.di,fF a9 (o9.le h9.fr),mB W.c2 ((o56.le l9).le h9.fr) (o:=5 + 1) rfl,aC,aL,aZ,aW,aU]
    have h9p:=h9.perm (aD4 _ _ _ _ _)
    obtain ⟨g1,g2⟩:=h9p.get List.mem_cons_self
    refine aGr (kf:=bZ) (vf:=Value.int .i64) (k:=((i':Int),d.cQ.gen i')) (v:=Y.S.next) Tryz.underlying122 nY g1 g2 hfw fun ow' hfw'=>?_
    have h10:=(h9p.set (o':=ow')).perm (aD4 _ _ _ _ _).symm
    generalize Mem.set M9 X.mw _ = M10 at h10 ⊢
    simp only [fF (vs:=j9 (cq,ct,cd,(i':Int),d.cQ.gen i')) fS ((o6.le l9).le h10.fr),aC,aL,aZ,aW,aU]
    refine aCR (v:=(cq,ct,cd,(i':Int),d.cQ.gen i')) h10 fun M11 h11=>?_
    simp only [fG.v,aZ,aW,aL,aU]
    refine jQ h11 fun b12 M12' lm12 h12'=>?_
    refine stW (vs:=(fG.mk 0 0 0 ct cd 0).cells) lQ (by rfl) (iJ _) h12' fun M12 h12=>?_
    simp only [fF a9 (o9.le h12.fr),aC,aL,aZ,aW,aU]
    refine aGV (o:=1) a9 (by exact (by decide:3≤6)) iS h12 fun M13 h13=>?_
    have hov:eO (fG.mk 0 0 0 ct cd 0).cells 1 [.int .i64 (i':Int),.int .i64 (d.cQ.gen i')] = (fG.mk 0 i' (d.cQ.gen i') ct cd 0).cells:=by
     have:=eE [.int .i64 0] [.int .i64 0,.int .i64 0] [.int .i64 ct,.int .i64 cd,.int .i64 0] [.int .i64 (i':Int),.int .i64 (d.cQ.gen i')] rfl (o:=1) rfl
     simpa [fG.cells] using this
    rw [hov] at h13
    simp only [fF (vs:=(fG.mk 0 i' (d.cQ.gen i') ct cd 0).cells) lQ h13.h.bC,aC,aL,aZ,aW,aU]
    refine jV (vs:=(fG.mk 0 i' (d.cQ.gen i') ct cd 0).cells) lQ (by rfl) (iJ _) ((h13.aX fun h=>h.right).aX aA.w9) fun M14 h14=>?_
    obtain ⟨y0',y1',hrep1,e0,e1',k0,k1⟩:=hrep y' ey1 ey2
    rw [hrep1] at hv'
    have hadd:=hv.add (t:=ct) (da:=cd) hq hat hv' e0 e1' k0 k1 em en (by rw [eip])
    rw [hv.nx] at hfw'
    refine hK M14 _ (jR.of (Y':=⟨Y.K,S',Y.I ++ [⟨((i':Int),d.cQ.gen i'),z6 Y.y0 Y.y1 cq,cc,(ct,d.next)⟩],y0',y1',Y.P.take z5 i' (cq,ct,cd,(i':Int),d.cQ.gen i'),gB Y.oP ((i':Int),d.cQ.gen i') (some ((i':Int),d.cQ.gen i')),gB Y.wh ((i':Int),d.cQ.gen i') (some d.next),Y.now,Y.gI,Y.last,Y.top⟩) hfa' hfe' hfb' hfw' ((((h14.fO l9).fO l6).fO l5).fO l1) em e0 e1') hadd ⟨rfl,rfl,rfl,?_⟩
    rw [←hIl];exact hst
end
end HL
namespace HL
section
variable {w0:World} {F M:Mem} {R:VP} {os:vA} {X:vP} {Y:yK} {S:QS} {P:PS V5} {Q:cI} {now K most b l tp:Int} {r0 r1:dN} {oa oe ob ow:Obj} {d:qL} {tm:Int} {c:tW} {oP:dN→Option dN} {wh:dN→Option Int}
theorem aHc {k:Int} {i:dN} {t:Int}:(aJ PP w0).oF aBv [(0,.int .i64 k),(4,.agg #[.int .i64 i.1,.int .i64 i.2]),(5,.int .i64 t)] = some (.agg (nK k 0 0 0 0 0 i.1 i.2 t).toArray):=by kernel_rfl
theorem aDJ {A:cI} {os:vA} {jt pj mb:Nat} {P:PS V5} {a g:Int} {v:V5} (oJ:cS w0 F jt (jtV pj mb) tJt) (h:HO w0 F M os (star (pR pj P) A)) (hb:P.l.length≤100000) (hw:P.find a g = some v)
  (h1:∀ M',HO w0 F M' os (star (pR pj P) A)→R (.tuple #[nU v,.int .i64 0]) M'):C PP w0 Id.pB #[.pointer (some ⟨jt,0,none⟩),.agg #[.int .i64 a,.int .i64 g]] R M :=
 aFC oJ h hb (fun v' hv=>by rw [hw] at hv;cases hv;exact h1) (fun hf=>by rw [hw] at hf;cases hf)
theorem aCX {A:cI} {os:vA} {jt pj mb:Nat} {P:PS V5} {a g:Int} (oJ:cS w0 F jt (jtV pj mb) tJt) (h:HO w0 F M os (star (pR pj P) A)) (hb:P.l.length≤100000) (hw:P.find a g = none)
  (h1:∀ M' e,HO w0 F M' os (star (pR pj P) A)→e≠0→e = P.pl.look a g→R (.tuple #[nU z5,.int .i64 e]) M'):C PP w0 Id.pB #[.pointer (some ⟨jt,0,none⟩),.agg #[.int .i64 a,.int .i64 g]] R M :=
 aFC oJ h hb (fun v' hv=>by rw [hw] at hv;cases hv) (fun _=>h1)
theorem aGN (hX:wH w0 F X) (hD:jR w0 F M os X Y Q) (hv:c9 Y d tm) (htm:tm≤900000) (hk:c.kind = 2)
  (hK:∀ M' Y',jR w0 F M' os X Y' Q→c9 Y' (gJ d c).1 tm→tP Y Y' (2 + dO d.l.length)→R (gJ d c).2.v M') :
  C PP w0 Id.kQ #[.pointer (some ⟨X.d,0,none⟩),c.v] R M:=by
 obtain ⟨oa,oe,ob,ow,hfa,hfe,hfb,hfw,h⟩:=hD
 obtain ⟨ck,cq,ca,cg,ct,cd⟩:=c
 simp only at hk
 subst hk
 rw [zT (.inl rfl)] at hK
 obtain ⟨e1,e2,e3,e4,e5⟩:=hv.wL
 have hok:=hv.ok htm
 apply kQ.go
 unfold kQ.T aH
 refine sZ h fun b1 F1 M1 l1 lm1 o1 h1=>?_
 have hX1:=hX.le l1
 refine jQ h1 fun b3 M2 lm2 h2'=>?_
 have h2:=h2'.aX aA.yT
 have hc2:∀ {M':Mem} {e:TypeId},cS w0 M' b1 [.int .i64 2,.int .i64 cq,.int .i64 ca,.int .i64 cg,.int .i64 ct,.int .i64 cd] e→(aJ PP w0).ld 33 ⟨b1,2,none⟩ M' = some (.agg #[.int .i64 ca,.int .i64 cg]):=fun o=>kZ (vs:=[.int .i64 ca,.int .i64 cg]) a9 o (q9 rfl rfl)
 have hc4:∀ {M':Mem} {e:TypeId},cS w0 M' b1 [.int .i64 2,.int .i64 cq,.int .i64 ca,.int .i64 cg,.int .i64 ct,.int .i64 cd] e→(aJ PP w0).ld 2 ⟨b1,4,none⟩ M' = some (.int .i64 ct):=fun o=>mB W.c2 o rfl
 simp (config:={ maxSteps:=10000000 }) only [aT,add_eq,Nat.zero_add,D7 h2.di,hc2 (o1.le h2.fr),aC,bN,aL,aZ,aW,aU]
 have hpkl:∀ e,e = Y.P.pl.look ca cg→e = d.cQ.look ca cg:=fun e he=>by rw [he,hv.pk]
 cases hfnd:Y.P.find ca cg with
 | none =>
  refine ⟨?_,?_⟩
  rotate_left
  refine jQ h2 fun b4 M4' lm4 h4'=>?_
  have o4':=(h4'.aX fun h=>h.right).di
  refine ⟨D7 o4',hc2 (o1.le h4'.fr),?_⟩
  refine aCX hX1.j (h4'.aX aA.yT).toJ (by omega) hfnd fun M4 e h4 he hel=>?_
  simp only [nU,cD,aZ,aW,aL,aU]
  refine stW (vs:=j9 z5) fS (by rfl) (dH _) (h4.ofJ.aX aA.w9) fun M5 h5=>?_
  rotate_left
  refine aCX hX1.j h2.toJ (by omega) hfnd fun M4 e h4 he hel=>?_
  simp only [nU,cD,aZ,aW,aL,aU]
  refine jQ h4.ofJ fun b4 M5' lm5 h5'=>?_
  refine stW (vs:=j9 z5) fS (by rfl) (dH _) h5' fun M5 h5=>?_
  all_goals
   have hlk:=hpkl e hel
   rw [if_pos (by rw [←hlk];exact he),←hlk] at hK
   rw [cB,if_neg he]
   refine p9 h5 fun M6 h6=>?_
   simp only [fG.v,aZ,aW,aL,aU]
   refine jV (vs:=(fG.mk e 0 0 0 0 0).cells) lQ (by rfl) (iJ _) ((h6.aX fun h=>h.right).aX aA.w9) fun M7 h7=>?_
   exact hK M7 Y ⟨oa,oe,ob,ow,hfa,hfe,hfb,hfw,h7.fO l1⟩ hv (tP.aC2 (by unfold dO;omega))
 | some v =>
  have hl0:d.cQ.look ca cg = 0:=by
   rw [←hv.pk]
   exact PS.p7.1 (by rw [hfnd];rfl)
  obtain ⟨kk,hkk⟩:=hok.look ca cg hl0
  obtain ⟨j,hj1,hja,hjg,A,B,hd,hA⟩:=hv.atD hkk
  subst hA
  have hjM:j∈d.l:=by rw [hd];simp
  have hvj:v = j.v5:=by
   have:=hv.jf j hjM
   rw [hja,hjg,hfnd] at this
   cases this;rfl
  subst hvj
  rw [if_neg (by rw [hl0];simp),hkk] at hK
  simp only [hj1] at hK
  rw [if_neg (by decide)] at hK
  refine ⟨?_,?_⟩
  rotate_left
  refine jQ h2 fun b4 M4' lm4 h4'=>?_
  have o4':=(h4'.aX fun h=>h.right).di
  refine ⟨D7 o4',hc2 (o1.le h4'.fr),?_⟩
  refine aDJ hX1.j (h4'.aX aA.yT).toJ (by omega) hfnd fun M4 h4=>?_
  simp only [nU,cD,aZ,aW,aL,aU]
  refine stW (vs:=j9 j.v5) fS (by rfl) (dH _) (h4.ofJ.aX aA.w9) fun M5 h5=>?_
  rotate_left
  refine aDJ hX1.j h2.toJ (by omega) hfnd fun M4 h4=>?_
  simp only [nU,cD,aZ,aW,aL,aU]
  refine jQ h4.ofJ fun b4 M5' lm5 h5'=>?_
  refine stW (vs:=j9 j.v5) fS (by rfl) (dH _) h5' fun M5 h5=>?_
  all_goals
   rw [cB,if_pos rfl]
   simp only [hc4 (o1.le h5.fr),mB W.c2 h5.h.bC (o:=1) rfl,aC,aL]
   rw [cR]
   by_cases hlt:j.key < ct
   ·rw [if_pos hlt] at hK
    rw [if_pos (show ct > j.v5.2.1 from hlt)]
    refine p9 h5 fun M6 h6=>?_
    simp only [fG.v,aZ,aW,aL,aU]
    refine jV (vs:=(fG.mk 26 0 0 0 0 0).cells) lQ (by rfl) (iJ _) ((h6.aX fun h=>h.right).aX aA.w9) fun M7 h7=>?_
    exact hK M7 Y ⟨oa,oe,ob,ow,hfa,hfe,hfb,hfw,h7.fO l1⟩ hv (tP.aC2 (by unfold dO;omega))
   ·rw [if_neg hlt] at hK
    rw [if_neg (show ¬ ct > j.v5.2.1 from hlt)]
    have o5:=(h5.aX fun h=>h.right).di
    have hit:∀ {M':Mem} {e:TypeId} {t:Int},cS w0 M' b4 (j9 (j.queue,t,j.data,j.at_,j.gen)) e→(aJ PP w0).ld 33 ⟨b4,3,none⟩ M' = some (.agg #[.int .i64 j.at_,.int .i64 j.gen]):=fun o=>kZ (vs:=[.int .i64 j.at_,.int .i64 j.gen]) a9 o (q9 rfl rfl)
    simp only [D2 o5,hit (t:=j.key) h5.h.bC,hc4 (o1.le h5.fr),aC,bN,aL,aZ,aW,aU,aHc (i:=(j.at_,j.gen))]
    obtain ⟨IA,x,IB,hI,hIA,hx1,hx2,hx3,hIB⟩:=hv.split hd
    obtain ⟨A',y,B',hAB,hyh,hrep⟩:=pick (y0:=Y.y0) (y1:=Y.y1) (hv.qr j hjM)
    have hvq:=hv.q
    rw [hAB,hI] at hvq
    have hjr:(j.at_,j.gen) = x.r:=hx1.symm
    rw [show j.at_ = x.r.1 from congrArg Prod.fst hjr,show j.gen = x.r.2 from congrArg Prod.snd hjr]
    have hke:ct≤x.e.1:=by rw [hx3];show ct≤j.key;omega
    refine aBj hX1.t hvq (hx2.trans hyh.symm) hke hfa hfe (h5.aX aA.yT) fun M6 S' oe' y' hfa' hfe' h6' ey1 ey2 hv' em en eip hst=>?_
    have h6:=h6'.aX aA.w9
    simp only [aZ,aW,aL,aU,hc4 (o1.le h6.fr),aC]
    refine aDq (o:=1) W.c2 (by simp [j9]) rfl rfl h6 fun M7 h7=>?_
    change HO w0 F1 M7 _ (star (bA b4 (j9 (j.queue,ct,j.data,j.at_,j.gen)) _) (DB X S' Y.P Y.now Y.K Y.S.most Y.y0.h Y.y1.h Y.gI Y.last Y.top _)) at h7
    have o7:=(h7.aX fun h=>h.right).di
    simp only [D7 o7,hc2 (o1.le h7.fr),fF (vs:=j9 (j.queue,ct,j.data,j.at_,j.gen)) fS h7.h.bC,aC,bN,aL,aZ,aW,aU]
    refine aJR (r:=(ca,cg)) (v:=(j.queue,ct,j.data,j.at_,j.gen)) (w:=j.v5) hX1.j (h7.aX aA.yT).toJ hfb (by omega) hfnd rfl (by rw [hja,hjg];have:=hv.jb j hjM;unfold Jb.r at this;rw [hja,hjg] at this;exact this) fun M8 ob' hfb' h8'=>?_
    have h8:=h8'.ofJ.aX aA.w9
    simp only [aL,fF (vs:=j9 (j.queue,ct,j.data,j.at_,j.gen)) fS h8.h.bC,aC,aZ,aW,aU]
    refine aCR (v:=(j.queue,ct,j.data,j.at_,j.gen)) (h8.aX fun h=>h.right) fun M9 h9=>?_
    simp only [fG.v,aZ,aW,aL,aU]
    refine jV (vs:=(fG.mk 0 0 0 ct j.data 0).cells) lQ (by rfl) (iJ _) (h9.aX aA.w9) fun M10 h10=>?_
    obtain ⟨y0',y1',hrep1,e0,e1',k0,k1⟩:=hrep y' ey1 ey2
    rw [hrep1] at hv'
    have hso:=hv.aLP hd hI hx1 hx2 hx3 hIA hIB hv' e0 e1' k0 k1 em en eip
    have hdl:(IA ++ x::IB).length = d.l.length:=by rw [←hI];exact hv.len
    refine hK M10 _ (jR.of (Y':=⟨Y.K,S',IA ++ { x with e:=(ct,x.e.2) }::IB,y0',y1',Y.P.put j.at_.toNat (j.queue,ct,j.data,j.at_,j.gen),Y.oP,Y.wh,Y.now,Y.gI,Y.last,Y.top⟩) hfa' hfe' hfb' hfw ?_ em e0 e1') hso ⟨rfl,rfl,rfl,?_⟩
    ·have hh:=h10.fO l1
     rw [show ((ca,cg):dN).1.toNat = j.at_.toNat from by rw [hja]] at hh
     exact hh
    ·rw [←hdl];exact hst
theorem aF3 {r:dN} {v:V5} (hX:wH w0 F X) (hb:P.l.length≤10000) (hfb':P.free.length≤10000) (hfb:dM bZ bZ oP ob) (hfw:dM bZ (Value.int .i64) wh ow) (hw:P.find r.1 r.2 = some v) (h:HO w0 F M (DO X oa oe ob ow os) (DB X S P now K most r0 r1 b l tp Q))
  (hK:∀ M' ob' ow',dM bZ bZ (gB oP v.2.2.2 none) ob'→dM bZ (Value.int .i64) (gB wh r none) ow'→HO w0 F M' (DO X oa oe ob' ow' os) (DB X S (P.gK z5 r.1.toNat) now K most r0 r1 b l tp Q)→R (fG.v { time:=v.2.1,data:=v.2.2.1 }) M') :
  C PP w0 Id.lZ #[.pointer (some ⟨X.d,0,none⟩),.agg #[.int .i64 r.1,.int .i64 r.2]] R M:=by
 apply lZ.go
 unfold lZ.T aH
 refine sZ h fun b1 F1 M1 l1 lm1 o1 h1=>?_
 have hX1:=hX.le l1
 refine jQ h1 fun b3 M2 lm2 h2'=>?_
 have h2:=h2'.aX aA.yT
 simp (config:={ maxSteps:=10000000 }) only [aT,add_eq,Nat.zero_add,D7 h2.di,fF a9 (o1.le h2.fr),aC,bN,aL,aZ,aW,aU]
 refine ⟨?_,?_⟩
 rotate_left
 refine jQ h2 fun b4 M3' lm3 h3'=>?_
 have o3':=(h3'.aX fun h=>h.right).di
 refine ⟨D7 o3',fF a9 (o1.le h3'.fr),?_⟩
 refine aEp hX1.j (h3'.aX aA.yT).toJ hfb hb hfb' hw fun M3 ob' hfb2 h3=>?_
 simp only [nU,cD,aZ,aW,aL,aU]
 refine xQ (vs:=j9 v) fS (by rfl) (dH _) (h3.ofJ.aX aA.w9) fun F4 M4 l4 o4 h4=>?_
 rotate_left
 refine aEp hX1.j h2.toJ hfb hb hfb' hw fun M3 ob' hfb2 h3=>?_
 simp only [nU,cD,aZ,aW,aL,aU]
 refine kC (vs:=j9 v) fS (by rfl) (dH _) h3.ofJ fun b4 F4 M4 l4 o4 h4=>?_
 all_goals
  rw [cB,if_pos rfl]
  simp only [D8 h4.di,fF a9 ((o1.le l4).le h4.fr),aC,aZ,aW,aL,aU]
  have h4p:=h4.perm (aD4 _ _ _ _ _)
  obtain ⟨g1,g2⟩:=h4p.get List.mem_cons_self
  refine aHJ (k:=r) rfl Tryz.underlying122 nY g1 g2 hfw fun ow' hfw'=>?_
  have h5:=(h4p.set (o':=ow')).perm (aD4 _ _ _ _ _).symm
  generalize Mem.set M4 X.mw _ = M5 at h5 ⊢
  simp only [fF (vs:=j9 v) fS (o4.le h5.fr),aC,aZ,aW,aL,aU]
  refine aCR (v:=v) h5 fun M6 h6=>?_
  simp only [fG.v,aZ,aW,aL,aU]
  refine jV (vs:=(fG.mk 0 0 0 v.2.1 v.2.2.1 0).cells) lQ (by rfl) (iJ _) (h6.aX aA.w9) fun M7 h7=>?_
  exact hK M7 ob' ow' hfb2 hfw' ((h7.fO l4).fO l1)
theorem aG7 {r:dN} (hX:wH w0 F X) (hb:P.l.length≤10000) (hw:P.find r.1 r.2 = none) (h:HO w0 F M (DO X oa oe ob ow os) (DB X S P now K most r0 r1 b l tp Q))
  (hK:∀ M',HO w0 F M' (DO X oa oe ob ow os) (DB X S P now K most r0 r1 b l tp Q)→R (fG.v { why:=P.pl.look r.1 r.2 }) M') :
  C PP w0 Id.lZ #[.pointer (some ⟨X.d,0,none⟩),.agg #[.int .i64 r.1,.int .i64 r.2]] R M:=by
 apply lZ.go
 unfold lZ.T aH
 refine sZ h fun b1 F1 M1 l1 lm1 o1 h1=>?_
 have hX1:=hX.le l1
 refine jQ h1 fun b3 M2 lm2 h2'=>?_
 have h2:=h2'.aX aA.yT
 simp (config:={ maxSteps:=10000000 }) only [aT,add_eq,Nat.zero_add,D7 h2.di,fF a9 (o1.le h2.fr),aC,bN,aL,aZ,aW,aU]
 refine ⟨?_,?_⟩
 rotate_left
 refine jQ h2 fun b4 M3' lm3 h3'=>?_
 have o3':=(h3'.aX fun h=>h.right).di
 refine ⟨D7 o3',fF a9 (o1.le h3'.fr),?_⟩
 refine aBo hX1.j (h3'.aX aA.yT).toJ hb hw fun M3 e h3 he hel=>?_
 simp only [nU,cD,aZ,aW,aL,aU]
 refine xQ (vs:=j9 z5) fS (by rfl) (dH _) (h3.ofJ.aX aA.w9) fun F4 M4 l4 o4 h4=>?_
 rotate_left
 refine aBo hX1.j h2.toJ hb hw fun M3 e h3 he hel=>?_
 simp only [nU,cD,aZ,aW,aL,aU]
 refine kC (vs:=j9 z5) fS (by rfl) (dH _) h3.ofJ fun b4 F4 M4 l4 o4 h4=>?_
 all_goals
  rw [cB,if_neg he]
  refine p9 h4 fun M6 h6=>?_
  simp only [fG.v,aZ,aW,aL,aU]
  refine jV (vs:=(fG.mk e 0 0 0 0 0).cells) lQ (by rfl) (iJ _) (h6.aX aA.w9) fun M7 h7=>?_
  rw [hel]
  exact hK M7 ((h7.fO l4).fO l1)
end
end HL
namespace HL
section
variable {w0:World} {F M:Mem}
theorem aA.sev {A B C D E G H Q:cI} (h:aA w0 F M (star A (star B (star C (star D (star E (star G (star H Q)))))))):aA w0 F M (star H (star A (star B (star C (star D (star E (star G Q))))))) :=
 (h.oG fun _ _ h=>(h.oG fun _ _ h=>(h.oG fun _ _ h=>(h.oG fun _ _ h=>(h.oG fun _ _ h=>h.dY).dY).dY).dY).dY).dY
theorem aA.bck {A B C D E G H Q:cI} (h:aA w0 F M (star H (star A (star B (star C (star D (star E (star G Q)))))))):aA w0 F M (star A (star B (star C (star D (star E (star G (star H Q))))))) :=
 h.dY.oG fun _ _ h=>h.dY.oG fun _ _ h=>h.dY.oG fun _ _ h=>h.dY.oG fun _ _ h=>h.dY.oG fun _ _ h=>h.dY
end
section
variable {w0:World} {F M:Mem} {R:VP} {os:vA} {X:vP} {Y:yK} {S:QS} {P:PS V5} {Q:cI} {now K most b l tp:Int} {r0 r1:dN} {oa oe ob ow:Obj} {d:qL} {tm:Int} {c:tW} {oP:dN→Option dN} {wh:dN→Option Int}
theorem aFn {k:Int} {i:dN}:(aJ PP w0).oF aBv [(0,.int .i64 k),(4,.agg #[.int .i64 i.1,.int .i64 i.2])] = some (.agg (nK k 0 0 0 0 0 i.1 i.2 0).toArray):=by kernel_rfl
theorem aAa {k:Int} {i:dN}:(aJ PP w0).oF aBv [(0,.int .i64 k),(2,.agg #[.int .i64 i.1,.int .i64 i.2])] = some (.agg (nK k 0 i.1 i.2 0 0 0 0 0).toArray):=by kernel_rfl
theorem aE6 {k:Int} {i j:dN}:(aJ PP w0).oF aBv [(0,.int .i64 k),(2,.agg #[.int .i64 i.1,.int .i64 i.2]),(3,.agg #[.int .i64 j.1,.int .i64 j.2])] = some (.agg (nK k 0 i.1 i.2 j.1 j.2 0 0 0).toArray):=by kernel_rfl
theorem xK {k x:Int}:(aJ PP w0).oF aBv [(0,.int .i64 k),(1,.int .i64 x)] = some (.agg (nK k x 0 0 0 0 0 0 0).toArray):=by kernel_rfl
theorem c9.aK8 (h:c9 Y d tm) {S':QS} (hS:eB S' Y.I [Y.y0,Y.y1] tm) (hm:S'.most = Y.S.most) (hn:S'.next = Y.S.next) (hip:S'.ip = Y.S.ip):c9 { Y with S:=S' } d tm :=
 ⟨hS,h.K3,h.k0,h.k1,h.pk,by show S'.ip.pl = d.cQ;rw [hip];exact h.ipk,hm.trans h.most,h.now,h.aBe,hn.trans h.nx,h.par,h.qr,h.jf,h.jb,h.jb2,h.jw,h.lv,h.sn,h.sl⟩
theorem aJS {x:Int} (o:cS w0 M X.bc [.int .i64 now] aDp) (h:R (.bool (decide (x≤now))) M):C PP w0 Id.eN #[.pointer (some ⟨X.bc,0,none⟩),.int .i64 x] R M:=by
 apply eN.go
 unfold eN.T aH
 simp only [aT,add_eq,Nat.zero_add,mB W.c2 o (o:=0) rfl,aC,aL]
 exact h
theorem aHi (hX:wH w0 F X) (hD:jR w0 F M os X Y Q) (hv:c9 Y d tm) (htm:tm≤900000) (hk:c.kind = 3)
  (hK:∀ M' Y',jR w0 F M' os X Y' Q→c9 Y' (gJ d c).1 (tm + 1)→tP Y Y' (dO d.l.length + 1)→R (gJ d c).2.v M') :
  C PP w0 Id.kR #[.pointer (some ⟨X.d,0,none⟩),.agg #[.int .i64 c.at_,.int .i64 c.gen]] R M:=by
 obtain ⟨oa,oe,ob,ow,hfa,hfe,hfb,hfw,h⟩:=hD
 obtain ⟨ck,cq,ca,cg,ct,cd⟩:=c
 simp only at hk
 subst hk
 rw [zT (.inr rfl)] at hK
 obtain ⟨e1,e2,e3,e4,e5⟩:=hv.wL
 have hok:=hv.ok htm
 apply kR.go
 unfold kR.T aH
 refine sZ h fun b1 F1 M1 l1 lm1 o1 h1=>?_
 have hX1:=hX.le l1
 refine jQ h1 fun b3 M2 lm2 h2'=>?_
 have h2:=h2'.aX aA.yT
 simp (config:={ maxSteps:=10000000 }) only [aT,add_eq,Nat.zero_add,D7 h2.di,fF a9 (o1.le h2.fr),aC,bN,aL,aZ,aW,aU]
 have hpkl:∀ e,e = Y.P.pl.look ca cg→e = d.cQ.look ca cg:=fun e he=>by rw [he,hv.pk]
 cases hfnd:Y.P.find ca cg with
 | none =>
  refine ⟨?_,?_⟩
  rotate_left
  refine jQ h2 fun b4 M4' lm4 h4'=>?_
  have o4':=(h4'.aX fun h=>h.right).di
  refine ⟨D7 o4',fF a9 (o1.le h4'.fr),?_⟩
  refine aCX hX1.j (h4'.aX aA.yT).toJ (by omega) hfnd fun M4 e h4 he hel=>?_
  simp only [nU,cD,aZ,aW,aL,aU]
  refine xQ (vs:=j9 z5) fS (by rfl) (dH _) (h4.ofJ.aX aA.w9) fun F5 M5 l5 o5 h5=>?_
  rotate_left
  refine aCX hX1.j h2.toJ (by omega) hfnd fun M4 e h4 he hel=>?_
  simp only [nU,cD,aZ,aW,aL,aU]
  refine kC (vs:=j9 z5) fS (by rfl) (dH _) h4.ofJ fun b4 F5 M5 l5 o5 h5=>?_
  all_goals
   have hlk:=hpkl e hel
   rw [if_pos (by rw [←hlk];exact he),←hlk] at hK
   rw [fJ,if_neg he]
   simp only [fF a9 ((o1.le l5).le h5.fr),aC,aZ,aW,aL,aU]
   refine aG7 (r:=(ca,cg)) (hX1.le l5) (by omega) hfnd h5 fun M6 h6=>?_
   rw [show Y.P.pl.look ((ca,cg):dN).1 ((ca,cg):dN).2 = e from hel.symm]
   simp only [fG.v,aZ,aW,aL,aU]
   refine jV (vs:=(fG.mk e 0 0 0 0 0).cells) lQ (by rfl) (iJ _) (h6.aX aA.w9) fun M7 h7=>?_
   exact hK M7 Y ⟨oa,oe,ob,ow,hfa,hfe,hfb,hfw,(h7.fO l5).fO l1⟩ (hv.v9 (by omega)) (tP.aC2 (by unfold dO;omega))
 | some v =>
  have hl0:d.cQ.look ca cg = 0:=by
   rw [←hv.pk]
   exact PS.p7.1 (by rw [hfnd];rfl)
  obtain ⟨kk,hkk⟩:=hok.look ca cg hl0
  obtain ⟨j,hj1,hja,hjg,A,B,hd,hA⟩:=hv.atD hkk
  subst hA
  have hjM:j∈d.l:=by rw [hd];simp
  have hvj:v = j.v5:=by
   have:=hv.jf j hjM
   rw [hja,hjg,hfnd] at this
   cases this;rfl
  subst hvj
  rw [if_neg (by rw [hl0];simp),hkk] at hK
  simp only [hj1] at hK
  rw [if_pos trivial] at hK
  refine ⟨?_,?_⟩
  rotate_left
  refine jQ h2 fun b4 M4' lm4 h4'=>?_
  have o4':=(h4'.aX fun h=>h.right).di
  refine ⟨D7 o4',fF a9 (o1.le h4'.fr),?_⟩
  refine aDJ hX1.j (h4'.aX aA.yT).toJ (by omega) hfnd fun M4 h4=>?_
  simp only [nU,cD,aZ,aW,aL,aU]
  refine xQ (vs:=j9 j.v5) fS (by rfl) (dH _) (h4.ofJ.aX aA.w9) fun F5 M5 l5 o5 h5=>?_
  rotate_left
  refine aDJ hX1.j h2.toJ (by omega) hfnd fun M4 h4=>?_
  simp only [nU,cD,aZ,aW,aL,aU]
  refine kC (vs:=j9 j.v5) fS (by rfl) (dH _) h4.ofJ fun b4 F5 M5 l5 o5 h5=>?_
  all_goals
   rw [fJ,if_pos rfl]
   have hX5:=hX1.le l5
   have hit:∀ {M':Mem} {e:TypeId},cS w0 M' b4 (j9 j.v5) e→(aJ PP w0).ld 33 ⟨b4,3,none⟩ M' = some (.agg #[.int .i64 j.at_,.int .i64 j.gen]):=fun o=>kZ (vs:=[.int .i64 j.at_,.int .i64 j.gen]) a9 o (q9 rfl rfl)
   simp only [aT,add_eq,Nat.zero_add,D2 h5.di,hit (o5.le h5.fr),aC,bN,aL,aZ,aW,aU,aFn (i:=(j.at_,j.gen))]
   obtain ⟨IA,x,IB,hI,hIA,hx1,hx2,hx3,hIB⟩:=hv.split hd
   obtain ⟨A',y,B',hAB,hyh,hrep⟩:=pick (y0:=Y.y0) (y1:=Y.y1) (hv.qr j hjM)
   have hvq:=hv.q
   rw [hAB,hI] at hvq
   have hjr:(j.at_,j.gen) = x.r:=hx1.symm
   rw [show j.at_ = x.r.1 from congrArg Prod.fst hjr,show j.gen = x.r.2 from congrArg Prod.snd hjr]
   refine aDd hX5.t hvq (hx2.trans hyh.symm) hfa hfe h5 fun M6 S' oa' oe' y' hfa' hfe' h6 ey1 ey2 hv' em en eip hst=>?_
   simp only [aZ,aW,aL,aU,fF a9 ((o1.le l5).le h6.fr),aC]
   refine aF3 (r:=(ca,cg)) hX5 (by omega) (by omega) hfb hfw hfnd h6 fun M7 ob' ow' hfb' hfw' h7=>?_
   simp only [fG.v,aZ,aW,aL,aU]
   refine jV (vs:=(fG.mk 0 0 0 j.key j.data 0).cells) lQ (by rfl) (iJ _) (h7.aX aA.w9) fun M8 h8=>?_
   obtain ⟨y0',y1',hrep1,e0,e1',k0,k1⟩:=hrep y' ey1 ey2
   rw [hrep1] at hv'
   have hxa:x.r.1.toNat = j.at_.toNat:=by rw [hx1];rfl
   have hou:=hv.out hd hI hIA hIB hv' e0 e1' k0 k1 em en (by rw [eip,hxa])
   have hdl:(IA ++ x::IB).length = d.l.length:=by rw [←hI];exact hv.len
   have hr:((ca,cg):dN) = j.r:=Prod.ext hja.symm hjg.symm
   rw [hr] at hfw'
   refine hK M8 _ (jR.of (Y':=⟨Y.K,S',IA ++ IB,y0',y1',Y.P.gK z5 j.at_.toNat,gB Y.oP j.r none,gB Y.wh j.r none,Y.now,Y.gI,Y.last,Y.top⟩) hfa' hfe' hfb' hfw' ?_ em e0 e1') hou ⟨rfl,rfl,rfl,?_⟩
   ·have hh:=(h8.fO l5).fO l1
    rw [show ((ca,cg):dN).1.toNat = j.at_.toNat from by rw [hja]] at hh
    exact hh
   ·rw [←hdl];exact hst
theorem aIj (hX:wH w0 F X) (hD:jR w0 F M os X Y Q) (hv:c9 Y d tm) (htm:tm≤900000) (hk:c.kind = 6) (hq:c.queue = 1)
  (hK:∀ M' Y',jR w0 F M' os X Y' Q→c9 Y' (gJ d c).1 (tm + 1)→tP Y Y' (dO d.l.length)→R (gJ d c).2.v M') :
  C PP w0 Id.mJ #[.pointer (some ⟨X.d,0,none⟩)] R M:=by
 obtain ⟨oa,oe,ob,ow,hfa,hfe,hfb,hfw,h⟩:=hD
 rw [aBB (aAD (.inr hq)) hk,if_neg (by omega)] at hK
 obtain ⟨e1,e2,e3,e4,e5⟩:=hv.wL
 apply mJ.go
 unfold mJ.T aH
 refine jQ h fun b3 M2 lm2 h2'=>?_
 have h2:=h2'.aX aA.yT
 simp (config:={ maxSteps:=10000000 }) only [aT,add_eq,Nat.zero_add,D2 h2.di,aC,bN]
 refine ⟨⟨by omega,by omega⟩,?_⟩
 rw [show (aJ PP w0).ld 33 ⟨X.d,3 + Int.toNat 0 * 2,none⟩ M2 = _ from D3 h2.di]
 simp only [aC,aZ,aW,aL,aU]
 refine ⟨⟨by omega,by omega⟩,?_⟩
 rw [show (aJ PP w0).ld 33 ⟨X.d,3 + Int.toNat 1 * 2,none⟩ M2 = _ from D5 h2.di]
 simp only [aC,aZ,aW,aL,aU,aE6]
 refine aE4 hX.t hv.q htm (hv.k1.trans hv.k0.symm) h2 fun M3 S1 y0' h3 ey1 ey2 hv1 em en eip eat een hst=>?_
 simp only [aZ,aW,aL,aU,D2 h3.di,D0 h3.di,aC,bN,xK]
 refine uR hX.t hv1 htm hv.K3.1 hv.K3.2 (by simp) h3 fun M4 S2 r h4 hv2 hnil em2 en2 eip2 eat2 een2 hst2=>?_
 simp only [aZ,aW,aL,aU]
 refine ⟨⟨by omega,by omega⟩,?_⟩
 refine aGV (o:=5) a9 (by exact (by decide:7≤13)) iS (h4.aX aA.sev) fun M5 h5'=>?_
 have hov:eO (dV X Y.K Y.S.most Y.y0.h Y.y1.h Y.gI Y.last Y.top) 5 [.int .i64 r.1,.int .i64 r.2] = dV X Y.K Y.S.most Y.y0.h r Y.gI Y.last Y.top:=by
  have:=eE [.int .i64 Y.K,.int .i64 Y.S.most,.pointer (some ⟨X.q,0,none⟩),.int .i64 Y.y0.h.1,.int .i64 Y.y0.h.2] [.int .i64 Y.y1.h.1,.int .i64 Y.y1.h.2] [.pointer (some ⟨X.jt,0,none⟩),.map (some X.mw),.pointer (some ⟨X.bc,0,none⟩),.int .i64 Y.gI,.int .i64 Y.last,.int .i64 Y.top] [.int .i64 r.1,.int .i64 r.2] rfl (o:=5) rfl
  simpa using this
 rw [hov] at h5'
 have h5:HO w0 F M5 (DO X oa oe ob ow os) (DB X S2 Y.P Y.now Y.K Y.S.most Y.y0.h r Y.gI Y.last Y.top (star (bA b3 _ _) Q)):=h5'.aX aA.bck
 simp only [D7 h5.di,aC,bN]
 refine aHF hX.j h5.toJ (by omega) hv.pg1 fun M6 h6'=>?_
 have h6:=h6'.ofJ
 rw [hv.cnt 1]
 simp only [aL,bR4,aC,aZ,aW,aU]
 refine jV (vs:=(fG.mk 0 0 0 0 0 (iR 1 d.l)).cells) lQ (by rfl) (iJ _) (h6.aX aA.w9) fun M7 h7=>?_
 have hme:=hv.merge (y0':=y0') (y1':=⟨r,Y.K, -1,[]⟩) hv2 ey1 ey2 hv.k1.symm (em2.trans em) (en2.trans en) (by rw [eip2,eip])
 rw [←eat,←eat2] at hfa
 rw [←een,←een2] at hfe
 refine hK M7 _ (jR.of (Y':=⟨Y.K,S2,Y.I.map (vX Y.y1.h Y.y0.h),y0',⟨r,Y.K, -1,[]⟩,yV Y.P Y.P.refs 1 0,Y.oP,Y.wh,Y.now,Y.gI,Y.last,Y.top⟩) hfa hfe hfb hfw h7 (em2.trans em) ey1 rfl) hme ⟨rfl,rfl,rfl,?_⟩
 have:=hst.trans hst2
 rw [hv.len,Int.add_zero] at this
 exact this
end
end HL
namespace HL
section
variable {w0:World} {F M:Mem} {R:VP} {os:vA} {X:vP} {Y:yK} {S:QS} {P:PS V5} {Q:cI} {now K most b l tp:Int} {r0 r1:dN} {oa oe ob ow:Obj} {d:qL} {tm:Int} {c:tW} {oP:dN→Option dN} {wh:dN→Option Int}
theorem aCb:∀ {A A2 B B2:List nH} {x x2:nH},((A ++ x::B).map (·.r)).Nodup→A ++ x::B = A2 ++ x2::B2→x.r = x2.r→A = A2∧x = x2∧B = B2
 | [],[],B,B2,x,x2,hn,he,hr=>by
  simp only [List.nil_append,List.cons.injEq] at he
  exact ⟨rfl,he.1,he.2⟩
 | [],a::A2,B,B2,x,x2,hn,he,hr=>by
  simp only [List.nil_append,List.cons_append,List.cons.injEq] at he
  obtain ⟨h1,h2⟩:=he
  subst h1
  rw [h2] at hn
  simp only [List.nil_append,List.map_cons,List.map_append,List.nodup_cons] at hn
  exact absurd (List.mem_append_right _ (by rw [hr];exact List.mem_cons_self)) hn.1
 | a::A,[],B,B2,x,x2,hn,he,hr=>by
  simp only [List.nil_append,List.cons_append,List.cons.injEq] at he
  obtain ⟨h1,h2⟩:=he
  subst h1
  simp only [List.cons_append,List.map_cons,List.map_append,List.nodup_cons] at hn
  exact absurd (List.mem_append_right _ (by rw [←hr];exact List.mem_cons_self)) hn.1
 | a::A,a2::A2,B,B2,x,x2,hn,he,hr=>by
  simp only [List.cons_append,List.cons.injEq] at he
  obtain ⟨h1,h2⟩:=he
  simp only [List.cons_append,List.map_cons,List.nodup_cons] at hn
  obtain ⟨q1,q2,q3⟩:=aCb hn.2 h2 hr
  exact ⟨by rw [h1,q1],q2,q3⟩
theorem aKn (hX:wH w0 F X) (hD:jR w0 F M os X Y Q) (hv:c9 Y d tm) (htm:tm≤900000) (hk:c.kind = 5) (hq:c.queue = 0∨c.queue = 1)
  (hK:∀ M' Y',jR w0 F M' os X Y' Q→c9 Y' (gJ d c).1 (tm + 1)→tP Y Y' (2 * dO d.l.length + 1)→R (gJ d c).2.v M') :
  C PP w0 Id.gN #[.pointer (some ⟨X.d,0,none⟩),.int .i64 c.queue] R M:=by
 obtain ⟨oa,oe,ob,ow,hfa,hfe,hfb,hfw,h⟩:=hD
 obtain ⟨ck,cq,ca,cg,ct,cd⟩:=c
 simp only at hk hq
 subst hk
 rw [aAd (aAD hq) rfl] at hK
 obtain ⟨e1,e2,e3,e4,e5⟩:=hv.wL
 have hl0:0≤dO d.l.length:=by unfold dO;omega
 apply gN.go
 intro aB H
 unfold gN.T aH
 refine jQ h fun b3 M2 lm2 h2'=>?_
 have h2:=h2'.aX aA.yT
 simp (config:={ maxSteps:=10000000 }) only [aT,add_eq,Nat.zero_add,D35 hq h2.di,aC,aZ,aW,aL,aU]
 refine ⟨⟨by omega,by omega⟩,?_⟩
 refine kC a9 (by rfl) iS h2 fun b4 F3 M3 l3 o3 h3=>?_
 have hX3:=hX.le l3
 simp only [D2 h3.di,fF a9 (o3.le h3.fr),aC,bN,aZ,aW,aL,aU,aAa]
 obtain ⟨A',y,B',hAB,hyh,hrep⟩:=pick (y0:=Y.y0) (y1:=Y.y1) hq
 have hvq:=hv.q
 rw [hAB] at hvq
 have hIl:=hv.len
 rw [←hyh]
 have none_ok:∀ (F5 M5:Mem) (b5:Nat) (S1:QS) (A:List Value),gJ d ⟨5,cq,ca,cg,ct,cd⟩ = (d,{ why:=28 })→Mem.le F3 F5→c9 { Y with S:=S1 } d tm→rS Y.S S1 (dO d.l.length)→dM (Value.int .i64) bZ S1.at_ oa→dM bZ mK S1.en oe→S1.most = Y.S.most →
   HO w0 F5 M5 (DO X oa oe ob ow os) (star (bA b5 A aA4) (DB X S1 Y.P Y.now Y.K Y.S.most Y.y0.h Y.y1.h Y.gI Y.last Y.top (star (bA b3 [.int .i64 0,.int .i64 0,.int .i64 0,.int .i64 0,.int .i64 0,.int .i64 0] iQ) Q))) →
   C PP w0 Id.cG #[.int .i64 28] (fun v M=>shA v fun n=>cM n fun u r=>mZ .i64 u fun n=>cM r fun u r=>mZ .i64 u fun n_22=>cM r fun u r=>mZ .i64 u fun n_23=>cM r fun u r=>mZ .i64 u fun n_24=>cM r fun u r=>mZ .i64 u fun n_25=>cM r fun u r=>mZ .i64 u fun n_26=>oY r ((aJ PP w0).st iQ ⟨b3,0,none⟩ (.agg #[.int .i64 n,.int .i64 n_22,.int .i64 n_23,.int .i64 n_24,.int .i64 n_25,.int .i64 n_26]) (fun M=>HL.ob ((aJ PP w0).rdv iQ (.pointer (some ⟨b3,0,none⟩)) M) fun v=>R v M) M)) M5:=by
  intro F5 M5 b5 S1 A hdo l5 hv1 hst hfa1 hfe1 hm h5
  refine p9 h5 fun M6 h6=>?_
  simp only [fG.v,aZ,aW,aL,aU]
  refine jV (vs:=(fG.mk 28 0 0 0 0 0).cells) lQ (by rfl) (iJ _) ((h6.aX fun h=>h.right).aX aA.w9) fun M7 h7=>?_
  rw [←aAd (aAD hq) rfl,hdo] at hK
  refine hK M7 { Y with S:=S1 } (jR.of (Y':={ Y with S:=S1 }) hfa1 hfe1 hfb hfw ((h7.fO l5).fO l3) hm rfl rfl) (hv1.v9 (by omega)) ⟨rfl,rfl,rfl,fun h0=>by
   obtain ⟨a1,a2,a3⟩:=hst h0
   exact ⟨a1,a2,by show S1.α.steps≤Y.S.α.steps + _;omega⟩⟩
 have fire_ok:∀ (F5 M5:Mem) (b5:Nat) (S1:QS) (A0:List Value) (x0:Nat × bR),A0.length = 8→pW d.l cq = some x0→¬ d.now < x0.2.1→Mem.le F3 F5→c9 { Y with S:=S1 } d tm→rS Y.S S1 (dO d.l.length)→dM (Value.int .i64) bZ S1.at_ oa→dM bZ mK S1.en oe→S1.most = Y.S.most →
   HO w0 F5 M5 (DO X oa oe ob ow os) (star (bA b5 A0 aA4) (DB X S1 Y.P Y.now Y.K Y.S.most Y.y0.h Y.y1.h Y.gI Y.last Y.top (star (bA b3 [.int .i64 0,.int .i64 0,.int .i64 0,.int .i64 0,.int .i64 0,.int .i64 0] iQ) Q))) →
   gN.J1 aB (some ⟨X.d,0,none⟩) ⟨b3,0,none⟩ ⟨b4,0,none⟩ ⟨b5,0,none⟩ M5:=by
  intro F5 M5 b5 S1 A0 x0 hA0 hf hdue l5 hv1 hst hfa1 hfe1 hm h5
  rw [hf] at hK
  simp only at hK
  rw [if_neg hdue] at hK
  obtain ⟨j,A,B,hd,hAl,hjq,hje,eT,huniq⟩:=hv1.first hq hf
  have hjM:j∈d.l:=by rw [hd];simp
  have hj1:d.l[x0.1]? = some j:=by rw [hd,←hAl];simp
  rw [hj1] at hK
  simp only at hK
  refine Eq.mpr (H.J1 ..) ?_
  unfold gN.J1.T aH
  have hX5:=hX3.le l5
  have hq1:=hv1.q
  have o5:=(h5.aX fun h=>h.right).di
  simp (config:={ maxSteps:=10000000 }) only [aT,add_eq,Nat.zero_add,D2 o5,fF a9 ((o3.le l5).le h5.fr),aC,bN,aZ,aW,aL,aU,aAa]
  change eB S1 Y.I [Y.y0,Y.y1] tm at hq1
  rw [hAB] at hq1
  have hne':eD Y.I y.h≠[]:=by rw [hyh];exact eT
  rw [←hyh]
  refine aDn hX5.t hq1 hne' hfa1 hfe1 (h5.aX aA.yT) fun M6 S' oa' oe' y' IA x IB hI hxy hb hfa' hfe' h6' ey1 ey2 hv' em en eip hst2=>?_
  have hxI:x∈Y.I:=by rw [hI];simp
  obtain ⟨hx1,hx3⟩:=huniq x hxI (hxy.trans hyh) (fun w hw hwh hwc=>hb w hw (hwh.trans hyh.symm) hwc)
  have h6:=h6'.aX aA.w9
  simp only [aZ,aW,aL,aU]
  refine xQ (vs:=lL 0 0 0 x.r.1 x.r.2 x.e.1 x.e.2 0) qM (by rw [hA0];rfl) eC h6 fun F7 M7 l7 o7 h7=>?_
  have hX7:=hX5.le l7
  rw [show x.r.1 = j.at_ from congrArg Prod.fst hx1,show x.r.2 = j.gen from congrArg Prod.snd hx1] at o7
  have hit:∀ {M':Mem} {e:TypeId},cS w0 M' b5 (lL 0 0 0 j.at_ j.gen x.e.1 x.e.2 0) e→(aJ PP w0).ld 33 ⟨b5,3,none⟩ M' = some (.agg #[.int .i64 j.at_,.int .i64 j.gen]):=fun o=>kZ (vs:=[.int .i64 j.at_,.int .i64 j.gen]) a9 o (q9 rfl rfl)
  have hby:=hv.jb j hjM
  simp only [D7 h7.di,hit (o7.le h7.fr),aC,bN,aZ,aW,aL,aU]
  refine ⟨?_,?_⟩
  rotate_left
  refine jQ h7 fun b8 M8' lm8 h8'=>?_
  have o8':=(h8'.aX fun h=>h.right).di
  refine ⟨D7 o8',hit (o7.le h8'.fr),?_⟩
  refine aHN (r:=j.r) (x:=j.r) hX7.j h8' (by simp) hfb hby fun M8 h8=>?_
  simp only [cD,aZ,aW,aL,bU,aU]
  refine xQ a9 (by rfl) iS h8 fun F9 M9 l9 o9 h9=>?_
  rotate_left
  refine aHN (r:=j.r) (x:=j.r) hX7.j h7 (by simp) hfb hby fun M8 h8=>?_
  simp only [cD,aZ,aW,aL,bU,aU]
  refine kC a9 (by rfl) iS h8 fun b8 F9 M9 l9 o9 h9=>?_
  all_goals
   have hX9:=hX7.le l9
   simp only [fF a9 (o9.le h9.fr),aC,aZ,aW,aL,aU]
   refine aF3 (r:=j.r) (v:=j.v5) hX9 (by omega) (by omega) hfb hfw (hv.jf j hjM) h9 fun M10 ob' ow' hfb' hfw' h10=>?_
   simp only [fG.v,aZ,aW,aL,aU]
   refine jQ h10 fun b12 M12' lm12 h12'=>?_
   refine stW (vs:=(fG.mk 0 0 0 j.key j.data 0).cells) lQ (by rfl) (iJ _) h12' fun M12 h12=>?_
   simp only [fF a9 (o9.le h12.fr),aC,aL,aZ,aW,aU]
   refine aGV (o:=1) a9 (by exact (by decide:3≤6)) iS h12 fun M13 h13=>?_
   have hov:eO (fG.mk 0 0 0 j.key j.data 0).cells 1 [.int .i64 j.r.1,.int .i64 j.r.2] = (fG.mk 0 j.at_ j.gen j.key j.data 0).cells:=by
    have:=eE [.int .i64 0] [.int .i64 0,.int .i64 0] [.int .i64 j.key,.int .i64 j.data,.int .i64 0] [.int .i64 j.r.1,.int .i64 j.r.2] rfl (o:=1) rfl
    simpa [fG.cells,Jb.r] using this
   rw [hov] at h13
   simp only [fF (vs:=(fG.mk 0 j.at_ j.gen j.key j.data 0).cells) lQ h13.h.bC,aC,aL,aZ,aW,aU]
   refine jV (vs:=(fG.mk 0 j.at_ j.gen j.key j.data 0).cells) lQ (by rfl) (iJ _) ((h13.aX fun h=>h.right).aX aA.w9) fun M14 h14=>?_
   obtain ⟨y0',y1',hrep1,e0,e1',k0,k1⟩:=hrep y' ey1 ey2
   rw [hrep1] at hv'
   have hxa:x.r.1.toNat = j.at_.toNat:=by rw [hx1];rfl
   obtain ⟨IA2,x2,IB2,hI2,hIA,hy1,hy2,hy3,hIB⟩:=hv1.split hd
   have hsame:IA = IA2∧x = x2∧IB = IB2:=aCb (by rw [←hI];exact hv.q.ind) (hI.symm.trans hI2) (hx1.trans hy1.symm)
   obtain ⟨hs1,hs2,hs3⟩:=hsame
   subst hs1 hs2 hs3
   have hou:=hv1.out hd hI2 hIA hIB hv' e0 e1' k0 k1 em en (by rw [eip,hxa])
   rw [hAl] at hou
   refine hK M14 _ (jR.of (Y':=⟨Y.K,S',IA ++ IB,y0',y1',Y.P.gK z5 j.at_.toNat,gB Y.oP j.r none,gB Y.wh j.r none,Y.now,Y.gI,Y.last,Y.top⟩) hfa' hfe' hfb' hfw' ((((h14.fO l9).fO l7).fO l5).fO l3) (em.trans hm) e0 e1') hou ⟨rfl,rfl,rfl,fun h0=>?_⟩
   have hh:=(hst.trans hst2) h0
   rw [hIl] at hh
   exact ⟨hh.1,hh.2.1,by have:=hh.2.2;show S'.α.steps≤Y.S.α.steps + _;omega⟩
 cases hf:pW d.l cq with
 | none =>
  have hno:=hv.aFt hq hf
  rw [←hyh] at hno
  have hdo:gJ d ⟨5,cq,ca,cg,ct,cd⟩ = (d,{ why:=28 }):=by
   rw [aAd (aAD hq) rfl]
   show (match pW d.l cq with | none=>_ | some y=>_) = _
   rw [hf]
  refine ⟨?_,?_⟩
  rotate_left
  refine jQ h3 fun b5 M4' lm4 h4'=>?_
  have o4':=(h4'.aX fun h=>h.right).di
  refine ⟨D2 o4',(by rw [hyh];exact fF a9 (o3.le h4'.fr)),?_⟩
  refine zU hX3.t hvq hno (h4'.aX aA.yT) fun M4 S1 h4 hv1 em en eip eat een hst=>?_
  simp only [aZ,aW,aL,aU]
  refine stW (vs:=lL 27 0 0 0 0 0 0 0) qM (by rfl) eC (h4.aX aA.w9) fun M5 h5=>?_
  rotate_left
  refine zU hX3.t hvq hno h3 fun M4 S1 h4 hv1 em en eip eat een hst=>?_
  simp only [aZ,aW,aL,aU]
  refine jQ h4 fun b5 M5' lm5 h5'=>?_
  refine stW (vs:=lL 27 0 0 0 0 0 0 0) qM (by rfl) eC h5' fun M5 h5=>?_
  all_goals
   simp only [mB W.c25 h5.h.bC (o:=0) rfl,aC,aL]
   rw [cB,if_neg (by decide)]
   rw [←hAB] at hv1
   exact none_ok F3 M5 b5 S1 _ hdo (Mem.le_refl _) (hv.aK8 hv1 em en eip) (fun h0=>by have:=hst h0;omega) (by rw [eat];exact hfa) (by rw [een];exact hfe) em h5
 | some x0 =>
  obtain ⟨j,A,B,hd,hAl,hjq,hje,eT,huniq⟩:=hv.first hq hf
  rw [←hyh] at eT
  refine ⟨?_,?_⟩
  rotate_left
  refine jQ h3 fun b5 M4' lm4 h4'=>?_
  have o4':=(h4'.aX fun h=>h.right).di
  refine ⟨D2 o4',(by rw [hyh];exact fF a9 (o3.le h4'.fr)),?_⟩
  refine yR hX3.t hvq eT hfa hfe (h4'.aX aA.yT) fun M4 S1 x hxI hxy hb hfa1 hfe1 h4 hv1 em en eip hst=>?_
  simp only [aZ,aW,aL,aU]
  refine stW (vs:=lL 0 0 0 x.r.1 x.r.2 x.e.1 x.e.2 0) qM (by rfl) eC (h4.aX aA.w9) fun M5 h5=>?_
  rotate_left
  refine yR hX3.t hvq eT hfa hfe h3 fun M4 S1 x hxI hxy hb hfa1 hfe1 h4 hv1 em en eip hst=>?_
  simp only [aZ,aW,aL,aU]
  refine jQ h4 fun b5 M5' lm5 h5'=>?_
  refine stW (vs:=lL 0 0 0 x.r.1 x.r.2 x.e.1 x.e.2 0) qM (by rfl) eC h5' fun M5 h5=>?_
  all_goals
   obtain ⟨hx1,hx3⟩:=huniq x hxI (hxy.trans hyh) (fun w hw hwh hwc=>hb w hw (hwh.trans hyh.symm) hwc)
   rw [←hAB] at hv1
   rw [hIl] at hst
   have hkey:x.e.1 = x0.2.1:=by rw [hx3,hje]
   have o5:=(h5.aX fun h=>h.right).di
   have c5:=(h5.aX fun h=>h.right).ck
   simp only [mB W.c25 h5.h.bC (o:=0) rfl,mB W.c2 h5.h.bC (o:=5) rfl,D9 o5,aC,aL,bN]
   rw [cB,if_pos rfl]
   refine aJS c5 ?_
   rw [bU,tN,cR]
   by_cases hdue:d.now < x0.2.1
   ·rw [if_neg (by have:=hv.now;omega)]
    refine none_ok F3 M5 b5 S1 _ ?_ (Mem.le_refl _) (hv.aK8 hv1 em en eip) hst hfa1 hfe1 em h5
    rw [aAd (aAD hq) rfl]
    show (match pW d.l cq with | none=>_ | some y=>_) = _
    rw [hf]
    simp only
    rw [if_pos hdue]
   ·rw [if_pos (by have:=hv.now;omega)]
    exact fire_ok F3 M5 b5 S1 _ x0 (by rfl) hf hdue (Mem.le_refl _) (hv.aK8 hv1 em en eip) hst hfa1 hfe1 em h5
end
end HL
namespace HL
section
variable {w0:World} {F M:Mem} {R:VP} {os:vA} {X:vP} {Y:yK} {S:QS} {P:PS V5} {Q:cI} {now K most b l tp:Int} {r0 r1:dN} {oa oe ob ow:Obj} {d:qL} {tm:Int} {c:tW} {oP:dN→Option dN} {wh:dN→Option Int}
theorem tP.mono {Y':yK} {k j:Int} (h:tP Y Y' k) (hk:k≤j):tP Y Y' j:=⟨h.b,h.l,h.t,fun h0=>by have:=h.s h0;omega⟩
theorem aJ7 (o:cS w0 M X.bc [.int .i64 now] aDp) (h:R (.int .i64 now) M):C PP w0 Id.eH #[.pointer (some ⟨X.bc,0,none⟩)] R M:=by
 apply eH.go
 unfold eH.T aH
 simp only [aT,add_eq,Nat.zero_add,mB W.c2 o (o:=0) rfl,aC,aL]
 exact h
theorem aLI {x:Int} (hn:gC now) (hx:gC x) (h:HO w0 F M (DO X oa oe ob ow os) (DB X S P now K most r0 r1 b l tp Q))
  (h0:x < 0→R (.int .i64 1) M) (h1:0≤x→∀ M',HO w0 F M' (DO X oa oe ob ow os) (DB X S P (kD now x) K most r0 r1 b l tp Q)→R (.int .i64 0) M') :
  C PP w0 Id.fA #[.pointer (some ⟨X.bc,0,none⟩),.int .i64 x] R M:=by
 apply fA.go
 unfold fA.T aH
 rw [cR]
 split
 ·exact h0 (by assumption)
 ·simp only [aT,add_eq,Nat.zero_add,mB W.c2 h.ck (o:=0) rfl,aC,aL]
  refine vR hn hx ?_
  simp only [aL]
  have h2:HO w0 F M (DO X oa oe ob ow os) (star (bA X.bc [.int .i64 now] aDp) (star (xY X.bh S.hp) (star (rQ X.bi S.ip) (star (bA X.q (qV X.a X.t X.me S.most S.next) tQs) (star (aF X.a S.α) (star (pR X.pj P) (star (bA X.d (dV X K most r0 r1 b l tp) tDi) Q))))))) :=
   h.aX fun h=>(h.oG fun _ _ h=>(h.oG fun _ _ h=>(h.oG fun _ _ h=>(h.oG fun _ _ h=>h.dY).dY).dY).dY).dY
  refine aDq (o:=0) W.c2 (by simp) rfl rfl h2 fun M3 h3=>?_
  refine h1 (by omega) M3 (h3.aX fun h=>h.dY.oG fun _ _ h=>h.dY.oG fun _ _ h=>h.dY.oG fun _ _ h=>h.dY.oG fun _ _ h=>h.dY)
theorem aIX {F1:Mem} {b3:Nat} {z:List Value} {rp:fG} (l1:Mem.le F F1) (hz:z.length = 6) (hD:jR w0 F1 M os X Y (star (bA b3 z iQ) Q)) {K:VP} (hK:∀ M',jR w0 F M' os X Y Q→K rp.v M') :
  (aJ PP w0).st iQ ⟨b3,0,none⟩ (.agg #[.int .i64 rp.why,.int .i64 rp.at_,.int .i64 rp.gen,.int .i64 rp.time,.int .i64 rp.data,.int .i64 rp.n]) (fun M1=>HL.ob ((aJ PP w0).rdv iQ (.pointer (some ⟨b3,0,none⟩)) M1) fun v=>K v M1) M:=by
 obtain ⟨oa,oe,ob,ow,hfa,hfe,hfb,hfw,h⟩:=hD
 refine jV (vs:=rp.cells) lQ (by rw [hz];rfl) (iJ _) (h.aX aA.w9) fun M2 h2=>?_
 exact hK M2 ⟨oa,oe,ob,ow,hfa,hfe,hfb,hfw,h2.fO l1⟩
theorem xL {why:Int} (hD:jR w0 F M os X Y Q) (hK:∀ M',jR w0 F M' os X Y Q→R (fG.v { why:=why }) M'):C PP w0 Id.cG #[.int .i64 why] R M:=by
 obtain ⟨oa,oe,ob,ow,hfa,hfe,hfb,hfw,h⟩:=hD
 exact p9 h fun M' h'=>hK M' ⟨oa,oe,ob,ow,hfa,hfe,hfb,hfw,h'⟩
theorem jR.di (hD:jR w0 F M os X Y Q):cS w0 M X.d (dV X Y.K Y.S.most Y.y0.h Y.y1.h Y.gI Y.last Y.top) tDi:=by
 obtain ⟨oa,oe,ob,ow,hfa,hfe,hfb,hfw,h⟩:=hD
 exact h.di
theorem jR.fr (hD:jR w0 F M os X Y Q):Mem.le F M:=by
 obtain ⟨oa,oe,ob,ow,hfa,hfe,hfb,hfw,h⟩:=hD
 exact h.fr
def aBk (n:Nat):Int:=2 * dO (n + 1) + 10
theorem aK7 (hX:wH w0 F X) (hD:jR w0 F M os X Y Q) (hv:c9 Y d tm) (htm:tm≤900000) (hct:gC c.time)
  (hK:∀ M' Y',jR w0 F M' os X Y' Q→c9 Y' (gJ d c).1 (tm + 1)→tP Y Y' (aBk d.l.length)→R (gJ d c).2.v M') :
  C PP w0 Id.fQ #[.pointer (some ⟨X.d,0,none⟩),c.v] R M:=by
 have hl1:dO d.l.length≤dO (d.l.length + 1):=qC (by omega)
 have hl0:0≤dO d.l.length:=by unfold dO;omega
 have hsm:∀ k:Int,k≤2 * dO (d.l.length + 1) + 10→k≤aBk d.l.length:=fun k hk=>hk
 apply fQ.go
 intro aB H
 unfold fQ.T aH
 have hD0:=hD
 obtain ⟨oa,oe,ob,ow,hfa,hfe,hfb,hfw,h⟩:=hD0
 refine sZ h fun b1 F1 M1 l1 lm1 o1 h1=>?_
 have hX1:=hX.le l1
 refine jQ h1 fun b3 M2 lm2 h2'=>?_
 have h2:=h2'.aX aA.yT
 have hD2:jR w0 F1 M2 os X Y (star (bA b3 [.int .i64 0,.int .i64 0,.int .i64 0,.int .i64 0,.int .i64 0,.int .i64 0] iQ) Q):=⟨oa,oe,ob,ow,hfa,hfe,hfb,hfw,h2⟩
 have hc0:∀ {M':Mem},Mem.le F1 M'→(aJ PP w0).ld 3 ⟨b1,0,none⟩ M' = some (.int .i64 c.kind):=fun hl=>mB W.c3 (o1.le hl) rfl
 have hc1:∀ {M':Mem},Mem.le F1 M'→(aJ PP w0).ld 3 ⟨b1,1,none⟩ M' = some (.int .i64 c.queue):=fun hl=>mB W.c3 (o1.le hl) rfl
 have hc2:∀ {M':Mem},Mem.le F1 M'→(aJ PP w0).ld 33 ⟨b1,2,none⟩ M' = some (.agg #[.int .i64 c.at_,.int .i64 c.gen]):=fun hl=>kZ (vs:=[.int .i64 c.at_,.int .i64 c.gen]) a9 (o1.le hl) (q9 rfl rfl)
 have hc4:∀ {M':Mem},Mem.le F1 M'→(aJ PP w0).ld 2 ⟨b1,4,none⟩ M' = some (.int .i64 c.time):=fun hl=>mB W.c2 (o1.le hl) rfl
 have hcc:∀ {M':Mem},Mem.le F1 M'→(aJ PP w0).ld qT ⟨b1,0,none⟩ M' = some c.v:=fun hl=>fF (vs:=c.cells) W.g68 (o1.le hl)
 have key2:∀ M3,¬ tA c→jR w0 F1 M3 os X Y (star (bA b3 [.int .i64 0,.int .i64 0,.int .i64 0,.int .i64 0,.int .i64 0,.int .i64 0] iQ) Q)→fQ.J2 aB (some ⟨X.d,0,none⟩) ⟨b1,0,none⟩ ⟨b3,0,none⟩ M3:=by
  intro M3 hnb hD3
  have fin:∀ (M5:Mem) (Y':yK) (k:Int),jR w0 F1 M5 os X Y' (star (bA b3 [.int .i64 0,.int .i64 0,.int .i64 0,.int .i64 0,.int .i64 0,.int .i64 0] iQ) Q)→c9 Y' (gJ d c).1 (tm + 1)→tP Y Y' k→k≤2 * dO (d.l.length + 1) + 10 →
    (aJ PP w0).st iQ ⟨b3,0,none⟩ (.agg #[.int .i64 (gJ d c).2.why,.int .i64 (gJ d c).2.at_,.int .i64 (gJ d c).2.gen,.int .i64 (gJ d c).2.time,.int .i64 (gJ d c).2.data,.int .i64 (gJ d c).2.n]) (fun M1=>HL.ob ((aJ PP w0).rdv iQ (.pointer (some ⟨b3,0,none⟩)) M1) fun v=>R v M1) M5 :=
   fun M5 Y' k hD5 hv5 hst hk=>aIX l1 (by rfl) hD5 fun M' h'=>hK M' Y' h' hv5 (hst.mono hk)
  refine Eq.mpr (H.J2 ..) ?_
  unfold fQ.J2.T aH
  simp (config:={ maxSteps:=10000000 }) only [aT,add_eq,Nat.zero_add,hc0 hD3.fr,aC,aL]
  rw [fJ]
  split
  ·rename_i hk
   have hq:c.queue = 0∨c.queue = 1:=by unfold tA at hnb;omega
   simp only [hcc hD3.fr,tW.v,aC,aZ,aW,aL,aU]
   refine aD3 hX1 hD3 hv htm hk hq fun M5 Y' hD5 hv5 hst=>?_
   simp only [fG.v,aZ,aW,aL,aU]
   exact fin M5 Y' _ hD5 hv5 hst (by omega)
  rename_i hk1
  rw [fJ]
  split
  ·rename_i hk
   simp only [hcc hD3.fr,tW.v,aC,aZ,aW,aL,aU]
   refine aGN hX1 hD3 hv htm hk fun M5 Y' hD5 hv5 hst=>?_
   simp only [fG.v,aZ,aW,aL,aU]
   exact fin M5 Y' _ hD5 (hv5.v9 (by omega)) hst (by omega)
  rename_i hk2
  rw [fJ]
  split
  ·rename_i hk
   simp only [hc2 hD3.fr,aC,aZ,aW,aL,aU]
   refine aHi hX1 hD3 hv htm hk fun M5 Y' hD5 hv5 hst=>?_
   simp only [fG.v,aZ,aW,aL,aU]
   exact fin M5 Y' _ hD5 hv5 hst (by omega)
  rename_i hk3
  rw [fJ]
  split
  ·rename_i hk
   rw [aEK hk] at fin
   obtain ⟨oa3,oe3,ob3,ow3,gfa,gfe,gfb,gfw,g3⟩:=hD3
   simp only [D9 g3.di,hc4 g3.fr,aC,bN,aL]
   have hn64:gC Y.now:=by rw [hv.now];exact hv.aBe
   refine aLI hn64 hct g3 (fun hneg=>?_) fun hpos M4 g4=>?_
   ·rw [if_pos hneg] at fin
    rw [aL,cB,if_neg (by decide)]
    refine xL (Y:=Y) ⟨oa3,oe3,ob3,ow3,gfa,gfe,gfb,gfw,g3⟩ fun M5 hD5=>?_
    simp only [fG.v,aZ,aW,aL,aU]
    exact fin M5 Y 0 hD5 (hv.v9 (by omega)) (tP.aC2 (Int.le_refl _)) (by omega)
   ·rw [if_neg (by omega)] at fin
    rw [aL,cB,if_pos rfl]
    simp only [D9 g4.di,aC,bN]
    refine aJ7 g4.ck ?_
    rw [hv.now] at g4 ⊢
    simp only [aL,bR2,aC,aZ,aW,aU]
    exact fin M4 { Y with now:=kD d.now c.time } 0 ⟨oa3,oe3,ob3,ow3,gfa,gfe,gfb,gfw,g4⟩ ((hv.go aC1).v9 (by omega)) ⟨rfl,rfl,rfl,fun h0=>by
     show Y.S.α.steps≤_∧Y.S.α.steps≤Y.S.α.steps∧Y.S.α.steps≤Y.S.α.steps + 0;omega⟩ (by omega)
  rename_i hk4
  rw [fJ]
  split
  ·rename_i hk
   have hq:c.queue = 0∨c.queue = 1:=by unfold tA at hnb;omega
   simp only [hc1 hD3.fr,aC,aL]
   refine aKn hX1 hD3 hv htm hk hq fun M5 Y' hD5 hv5 hst=>?_
   simp only [fG.v,aZ,aW,aL,aU]
   exact fin M5 Y' _ hD5 hv5 hst (by omega)
  rename_i hk5
  rw [fJ]
  split
  ·rename_i hk
   have hq:c.queue = 0∨c.queue = 1:=by unfold tA at hnb;omega
   simp only [hc1 hD3.fr,aC,aL]
   rw [fJ]
   split
   ·rename_i hq0
    rw [aBB hnb hk,if_pos hq0] at fin
    refine xL hD3 fun M5 hD5=>?_
    simp only [fG.v,aZ,aW,aL,aU]
    exact fin M5 Y 0 hD5 (hv.v9 (by omega)) (tP.aC2 (Int.le_refl _)) (by omega)
   ·rename_i hq0
    refine aIj hX1 hD3 hv htm hk (by omega) fun M5 Y' hD5 hv5 hst=>?_
    simp only [fG.v,aZ,aW,aL,aU]
    exact fin M5 Y' _ hD5 hv5 hst (by omega)
  rename_i hk6
  rw [fJ]
  split
  ·rename_i hk
   rw [aFe hnb hk] at fin
   obtain ⟨oa3,oe3,ob3,ow3,gfa,gfe,gfb,gfw,g3⟩:=hD3
   obtain ⟨e1,e2,e3,e4,e5⟩:=hv.wL
   simp only [D7 g3.di,hc1 g3.fr,aC,aL,bN]
   refine aHh hX1.j g3.toJ (by omega) hv.pg1 fun M4 g4'=>?_
   have g4:=g4'.ofJ
   rw [hv.cnt]
   simp only [aL,bR4,aC,aZ,aW,aU]
   exact fin M4 Y 0 ⟨oa3,oe3,ob3,ow3,gfa,gfe,gfb,gfw,g4⟩ (hv.v9 (by omega)) (tP.aC2 (Int.le_refl _)) (by omega)
  ·rw [aE7 (by omega)] at fin
   refine xL hD3 fun M5 hD5=>?_
   simp only [fG.v,aZ,aW,aL,aU]
   exact fin M5 Y 0 hD5 (hv.v9 (by omega)) (tP.aC2 (Int.le_refl _)) (by omega)
 have key1:∀ M3 (rt:Bool),(rt = true↔(0≤c.queue∧c.queue < 2))→jR w0 F1 M3 os X Y (star (bA b3 [.int .i64 0,.int .i64 0,.int .i64 0,.int .i64 0,.int .i64 0,.int .i64 0] iQ) Q)→fQ.J1 aB (some ⟨X.d,0,none⟩) ⟨b1,0,none⟩ ⟨b3,0,none⟩ rt M3:=by
  intro M3 rt hrt hD3
  have bad:tA c→C PP w0 Id.cG #[.int .i64 1] (fun v M=>shA v fun n=>cM n fun u r=>mZ .i64 u fun n=>cM r fun u r=>mZ .i64 u fun n_1=>cM r fun u r=>mZ .i64 u fun n_2=>cM r fun u r=>mZ .i64 u fun n_3=>cM r fun u r=>mZ .i64 u fun n_4=>cM r fun u r=>mZ .i64 u fun n_5=>oY r ((aJ PP w0).st iQ ⟨b3,0,none⟩ (.agg #[.int .i64 n,.int .i64 n_1,.int .i64 n_2,.int .i64 n_3,.int .i64 n_4,.int .i64 n_5]) (fun M=>HL.ob ((aJ PP w0).rdv iQ (.pointer (some ⟨b3,0,none⟩)) M) fun v=>R v M) M)) M3:=by
   intro hb
   rw [aAX hb] at hK
   refine xL hD3 fun M5 hD5=>?_
   simp only [fG.v,aZ,aW,aL,aU]
   exact aIX (rp:={ why:=1 }) l1 (by rfl) hD5 fun M' h'=>hK M' Y h' (hv.v9 (by omega)) (tP.aC2 (by unfold aBk;omega))
  refine Eq.mpr (H.J1 ..) ?_
  unfold fQ.J1.T aH
  simp only [hc0 hD3.fr,aC,aL,fJ,tN]
  cases hr:rt with
  | true =>
   have hnb:¬ tA c:=by have:=hrt.1 hr;unfold tA;omega
   simp only [dZ,ite_self]
   exact key2 M3 hnb hD3
  | false =>
   have hq:c.queue < 0∨2≤c.queue:=by
    have:¬ (0≤c.queue∧c.queue < 2):=fun h=>by rw [hrt.2 h] at hr;cases hr
    omega
   simp only [mE]
   by_cases h1:c.kind = 1
   ·rw [if_pos h1,if_pos h1];exact bad ⟨.inl h1,hq⟩
   ·rw [if_neg h1]
    by_cases h5:c.kind = 5
    ·rw [if_pos h5,if_pos h5];exact bad ⟨.inr (.inl h5),hq⟩
    ·rw [if_neg h5]
     by_cases h6:c.kind = 6
     ·rw [if_pos h6,if_pos h6];exact bad ⟨.inr (.inr (.inl h6)),hq⟩
     ·rw [if_neg h6]
      by_cases h7:c.kind = 7
      ·rw [if_pos h7];exact bad ⟨.inr (.inr (.inr h7)),hq⟩
      ·rw [if_neg h7];exact key2 M3 (by unfold tA;omega) hD3
 simp only [add_eq,Nat.zero_add,hc1 hD2.fr,aC,aL]
 rw [cR]
 split
 ·exact key1 M2 _ (by rw [decide_eq_true_eq];omega) hD2
 ·exact key1 M2 _ (by constructor;(intro h;cases h);omega) hD2
end
end HL
namespace HL
structure aEl (Y:yK):Prop where
 b:Y.gI = 2000 + 1600 * (bl (Y.S.most.toNat + 1):Int)
 l:Y.last≤Y.gI
 t0:0≤Y.top
 t:Y.top≤Y.gI
section
variable {w0:World} {F M:Mem} {R:VP} {os:vA} {X:vP} {Y:yK} {S:QS} {P:PS V5} {Q:cI} {now K most b l tp:Int} {r0 r1:dN} {oa oe ob ow:Obj} {d:qL} {tm:Int} {c:tW} {oP:dN→Option dN} {wh:dN→Option Int}
theorem D10 (o:cS w0 M X.d (dV X K most r0 r1 b l tp) tDi):(aJ PP w0).ld 2 ⟨X.d,10,none⟩ M = some (.int .i64 b):=mB W.c2 o rfl
theorem D11 (o:cS w0 M X.d (dV X K most r0 r1 b l tp) tDi):(aJ PP w0).ld 2 ⟨X.d,11,none⟩ M = some (.int .i64 l):=mB W.c2 o rfl
theorem D12 (o:cS w0 M X.d (dV X K most r0 r1 b l tp) tDi):(aJ PP w0).ld 2 ⟨X.d,12,none⟩ M = some (.int .i64 tp):=mB W.c2 o rfl
theorem aMO {v:Int} (h:HO w0 F M (DO X oa oe ob ow os) (DB X S P now K most r0 r1 b l tp Q)) {K':Mem→Prop} (hK:∀ M',HO w0 F M' (DO X oa oe ob ow os) (DB X S P now K most r0 r1 b v tp Q)→K' M'):(aJ PP w0).st 2 ⟨X.d,11,none⟩ (.int .i64 v) (fun M'=>K' M') M :=
 aDq (o:=11) W.c2 (by simp) rfl rfl (h.aX aA.sev) fun M' h'=>hK M' (h'.aX aA.bck)
theorem aMJ {v:Int} (h:HO w0 F M (DO X oa oe ob ow os) (DB X S P now K most r0 r1 b l tp Q)) {K':Mem→Prop} (hK:∀ M',HO w0 F M' (DO X oa oe ob ow os) (DB X S P now K most r0 r1 b l v Q)→K' M'):(aJ PP w0).st 2 ⟨X.d,12,none⟩ (.int .i64 v) (fun M'=>K' M') M :=
 aDq (o:=12) W.c2 (by simp) rfl rfl (h.aX aA.sev) fun M' h'=>hK M' (h'.aX aA.bck)
theorem aG3 {c:tW}:(gJ d c).1.most = d.most:=by
 have ho:∀ k,(d.out k).most = d.most:=fun k=>by unfold qL.out;split <;> rfl
 by_cases hb:tA c
 ·rw [aAX hb]
 ·rcases (by omega:c.kind = 1∨(c.kind = 2∨c.kind = 3)∨c.kind = 4∨c.kind = 5∨c.kind = 6∨c.kind = 7∨(c.kind < 1∨7 < c.kind)) with h | h | h | h | h | h | h
  ·rw [aDg hb h];split <;> rfl
  ·rw [zT h]
   split
   ·rfl
   ·split
    ·rfl
    ·split
     ·rfl
     ·split
      ·exact ho _
      ·split <;> rfl
  ·rw [aEK h];split <;> rfl
  ·rw [aAd hb h]
   split
   ·rfl
   ·split
    ·rfl
    ·split
     ·rfl
     ·exact ho _
  ·rw [aBB hb h];split <;> rfl
  ·rw [aFe hb h]
  ·rw [aE7 h]
theorem aEG (hX:wH w0 F X) (hD:jR w0 F M os X Y Q) (hv:c9 Y d tm) (hb:aEl Y) (htm:tm≤900000) (hct:gC c.time)
  (hK:∀ M' Y',jR w0 F M' os X Y' Q→c9 Y' (gJ d c).1 (tm + 1)→aEl Y'→Y'.gI = Y.gI→R (gJ d c).2.v M') :
  C PP w0 Id.xD #[.pointer (some ⟨X.d,0,none⟩),c.v] R M:=by
 obtain ⟨oa,oe,ob,ow,hfa,hfe,hfb,hfw,h⟩:=hD
 obtain ⟨e1,e2,e3,e4,e5⟩:=hv.wL
 have hst0:=hv.q.inv.steps
 apply xD.go
 unfold xD.T aH
 refine sZ h fun b1 F1 M1 l1 lm1 o1 h1=>?_
 have hX1:=hX.le l1
 refine jQ h1 fun b3 M2 lm2 h2'=>?_
 have h2:=h2'.aX aA.yT
 simp (config:={ maxSteps:=10000000 }) only [aT,add_eq,Nat.zero_add,D2 h2.di,aC,bN]
 refine aCn h2 ?_
 have hcc:∀ {M':Mem},Mem.le F1 M'→(aJ PP w0).ld qT ⟨b1,0,none⟩ M' = some c.v:=fun hl=>fF (vs:=c.cells) W.g68 (o1.le hl)
 simp only [aL,hcc h2.fr,tW.v,aC,aZ,aW,aU]
 refine aK7 hX1 ⟨oa,oe,ob,ow,hfa,hfe,hfb,hfw,h2⟩ hv htm hct fun M3 Y' hD3 hv3 hstp=>?_
 obtain ⟨oa',oe',ob',ow',gfa,gfe,gfb,gfw,g3⟩:=hD3
 simp only [fG.v,aZ,aW,aL,aU]
 refine kC (vs:=(gJ d c).2.cells) lQ (by rfl) (iJ _) g3 fun b4 F4 M4 l4 o4 g4=>?_
 simp only [D2 g4.di,aC,bN]
 refine aCn g4 ?_
 have hs:=hstp.s ⟨hst0.1,hst0.2.2⟩
 have hm':Y'.S.most = Y.S.most:=by
  have a1:=hv3.most
  have a2:=hv.most
  have a3:(gJ d c).1.most = d.most:=aG3
  omega
 have hbu:aBk d.l.length≤Y.gI:=by
  rw [hb.b]
  unfold aBk dO
  have hb1:bl (d.l.length + 1)≤bl (Y.S.most.toNat + 1):=aCT (by have:=hv.most;omega)
  omega
 have hw:lN (Y'.S.α.steps - Y.S.α.steps) = Y'.S.α.steps - Y.S.α.steps:=aQ (by omega)
 simp only [aL,hw]
 refine aMO g4 fun M5 g5=>?_
 simp only [D12 g5.di,D11 g5.di,aC,aL]
 refine aMJ g5 fun M6 g6=>?_
 simp only [D11 g6.di,D10 g6.di,aC,aL]
 rw [cR,if_neg (by have:=hstp.b;omega)]
 simp only [fF (vs:=(gJ d c).2.cells) lQ (o4.le g6.fr),aC,aZ,aW,aL,aU]
 refine jV (vs:=(gJ d c).2.cells) lQ (by rfl) (iJ _) (g6.aX aA.w9) fun M7 g7=>?_
 have htop:=hstp.t
 have hbb:=hstp.b
 refine hK M7 { Y' with last:=Y'.S.α.steps - Y.S.α.steps,top:=if Y'.S.α.steps - Y.S.α.steps > Y'.top then Y'.S.α.steps - Y.S.α.steps else Y'.top } ⟨oa',oe',ob',ow',gfa,gfe,gfb,gfw,(g7.fO l4).fO l1⟩ ⟨hv3.q,hv3.K3,hv3.k0,hv3.k1,hv3.pk,hv3.ipk,hv3.most,hv3.now,hv3.aBe,hv3.nx,hv3.par,hv3.qr,hv3.jf,hv3.jb,hv3.jb2,hv3.jw,hv3.lv,hv3.sn,hv3.sl⟩ ⟨?_,?_,?_,?_⟩ hstp.b
 ·show Y'.gI = 2000 + 1600 * (bl (Y'.S.most.toNat + 1):Int)
  rw [hbb,hb.b,hm']
 ·show Y'.S.α.steps - Y.S.α.steps≤Y'.gI
  omega
 ·show 0≤if Y'.S.α.steps - Y.S.α.steps > Y'.top then Y'.S.α.steps - Y.S.α.steps else Y'.top
  have:=hb.t0
  split <;> omega
 ·show (if Y'.S.α.steps - Y.S.α.steps > Y'.top then Y'.S.α.steps - Y.S.α.steps else Y'.top)≤Y'.gI
  have:=hb.t
  split <;> omega
theorem aJ8 (hX:wH w0 F X) (hD:jR w0 F M os X Y Q) (hv:c9 Y d tm) (hK:R (.int .i64 d.l.length) M):C PP w0 Id.sH #[.pointer (some ⟨X.d,0,none⟩)] R M:=by
 obtain ⟨oa,oe,ob,ow,hfa,hfe,hfb,hfw,h⟩:=hD
 obtain ⟨e1,e2,e3,e4,e5⟩:=hv.wL
 apply sH.go
 unfold sH.T aH
 simp only [aT,add_eq,Nat.zero_add,D7 h.di,aC,bN]
 refine aGg hX.j h.toJ (by omega) (by omega) ?_
 rw [aL,show (Y.P.l.length - Y.P.free.length:Nat) = d.l.length from by omega]
 exact hK
theorem HO.beside {A B:cI} {M':Mem} (h:HO w0 F M os A) (h2:aA w0 M M' B):HO w0 F M' os (star B A) :=
 ⟨h.nd,fun x hx=>⟨(h.at_ x hx).1,(h.at_ x hx).2.1,h2.fr _ _ (h.at_ x hx).2.2⟩,h.h.beside h2⟩
theorem aJG {A:cI} {n:Int} (h:HO w0 F M os A) (h1:1≤n) (h2:n≤300)
  (hK:∀ F' M' t bh bi ma oa,Mem.le F F'→cS w0 F' t (x4 bh bi ma) x5→dM (Value.int .i64) bZ (fun _=>none) oa→HO w0 F' M' ((ma,oa)::os) (star (xY bh ⟨64,[],[]⟩) (star (rQ bi ⟨n,[],[]⟩) A))→R (.pointer (some ⟨t,0,none⟩)) M') :
  C PP w0 Id.kV #[.int .i64 n] R M:=by
 apply kV.go
 unfold kV.T aH
 obtain ⟨F1,hB,l1,back⟩:=h.wJ
 refine aJQ hB (by omega) (by omega) fun M1 bh h1'=>?_
 have g1:=back M1 _ h1'
 rw [bN,show (if (if 16384 < n then (16384:Int) else n) > 1 then (if 16384 < n then (16384:Int) else n) else 1) = n from by rw [if_neg (by omega:¬ 16384 < n)];split <;> omega]
 obtain ⟨F2,hB2,l2,back2⟩:=g1.wJ
 refine aJt hB2 (by omega) (by omega) fun M2 bi h2'=>?_
 have g2:=back2 M2 _ h2'
 rw [bN]
 refine aJP (kf:=Value.int .i64) (vf:=bZ) fun ma oa hm hw hf=>?_
 have g3:=g2.new hw hm (o:=oa)
 generalize Mem.set M2 ma _ = M3 at g3 ⊢
 have hbld:(aJ PP w0).oF 156 [(0,.pointer (some ⟨bh,0,none⟩)),(1,.pointer (some ⟨bi,0,none⟩)),(2,.map (some ma))] = some (.agg #[.pointer (some ⟨bh,0,none⟩),.pointer (some ⟨bi,0,none⟩),.map (some ma)]):=by kernel_rfl
 simp only [hbld,aC,aZ,aW,bN,aU]
 refine sZ g3 fun t F4 M4 l4 lm4 o4 g4=>?_
 exact hK F4 M4 t bh bi ma oa l4 o4 hf (g4.aX aA.dY)
theorem aFv {A:cI} {n:Nat} (h:HO w0 F M os A) (h1:1≤n) (h2:n≤300)
  (hK:∀ F' M' q a t bh bi ma me oa oe,Mem.le F F'→cS w0 F' t (x4 bh bi ma) x5→dM (Value.int .i64) bZ (fun _=>none) oa→dM bZ mK (fun _=>none) oe →
   HO w0 F' M' ((ma,oa)::(me,oe)::os) (QA q a t bh bi me ⟨n,0,AS.new (2 * n),⟨64,[],[]⟩,⟨n,[],[]⟩,fun _=>none,fun _=>none⟩ A)→R (.tuple #[.pointer (some ⟨q,0,none⟩),.int .i64 0]) M') :
  C PP w0 Id.jS #[.int .i64 n] R M:=by
 apply jS.go
 intro aB H
 unfold jS.T aH
 (rw [cR,if_neg (by omega),cR,if_neg (by omega)];refine Eq.mpr (H.J1 ..) ?_)
 unfold jS.J1.T aH
 rw [show lN (2 * (n:Int)) = ((2 * n:Nat):Int) from by rw [aQ (by omega)];omega]
 refine aK9 fun M1 a hA=>?_
 rw [show (if (if 65536 < ((2 * n:Nat):Int) then (65536:Int) else ((2 * n:Nat):Int)) > 0 then (if 65536 < ((2 * n:Nat):Int) then (65536:Int) else ((2 * n:Nat):Int)) else 0).toNat = 2 * n from by
  rw [if_neg (by omega:¬ 65536 < ((2 * n:Nat):Int))];split <;> omega] at hA
 have g1:=h.beside hA
 rw [bN]
 refine aJG g1 (by omega) (by omega) fun F2 M2 t bh bi ma oa l2 o2 hfa g2=>?_
 rw [bN]
 refine aJP (kf:=bZ) (vf:=mK) fun me oe hm hw hf=>?_
 have g3:=g2.new hw hm (o:=oe)
 generalize Mem.set M2 me _ = M3 at g3 ⊢
 have hbld:(aJ PP w0).oF tQs [(0,.int .i64 n),(1,.pointer (some ⟨a,0,none⟩)),(2,.pointer (some ⟨t,0,none⟩)),(3,.map (some me))] = some (.agg #[.int .i64 n,.pointer (some ⟨a,0,none⟩),.pointer (some ⟨t,0,none⟩),.map (some me),.int .i64 0]):=by kernel_rfl
 simp only [hbld,aC,aZ,aW,bN,aL,aU]
 refine jQ g3 fun q M4 lm4 g4=>?_
 refine hK F2 M4 q a t bh bi ma me oa oe l2 o2 hfa hf ((g4.aX fun h=>h.dY.oG fun _ _ h=>h.dY).perm (List.Perm.swap _ _ _))
end
end HL
namespace HL
section
variable {w0:World} {F M:Mem}
theorem aA.dp5 {X A B C D E Q:cI} (h:aA w0 F M (star X (star A (star B (star C (star D (star E Q))))))):aA w0 F M (star A (star B (star C (star D (star E (star X Q)))))) :=
 h.dY.oG fun _ _ h=>h.dY.oG fun _ _ h=>h.dY.oG fun _ _ h=>h.dY.oG fun _ _ h=>h.dY
theorem aA.dp6 {X A B C D E G Q:cI} (h:aA w0 F M (star X (star A (star B (star C (star D (star E (star G Q)))))))):aA w0 F M (star A (star B (star C (star D (star E (star G (star X Q))))))) :=
 h.dY.oG fun _ _ h=>h.dY.oG fun _ _ h=>h.dY.oG fun _ _ h=>h.dY.oG fun _ _ h=>h.dY.oG fun _ _ h=>h.dY
end
section
variable {w0:World} {F M:Mem} {R:VP} {os:vA} {A:cI}
theorem aKs {n:Int} (h:HO w0 F M os A) (h1:1≤n) (h2:n≤300)
  (hK:∀ F' M' jt pj mb ob,Mem.le F F'→cS w0 F' jt (jtV pj mb) tJt→dM bZ bZ (fun _=>none) ob→HO w0 F' M' ((mb,ob)::os) (star (pR pj ⟨n,[],[]⟩) A)→R (.pointer (some ⟨jt,0,none⟩)) M') :
  C PP w0 Id.mP #[.int .i64 n] R M:=by
 apply mP.go
 unfold mP.T aH
 obtain ⟨F1,hB,l1,back⟩:=h.wJ
 rw [show (if (if 4096 < n then (4096:Int) else n) > 1 then (if 4096 < n then (4096:Int) else n) else 1) = n from by rw [if_neg (by omega:¬ 4096 < n)];split <;> omega]
 refine aJ5 hB (by omega) (by omega) fun M1 pj h1'=>?_
 have g1:=back M1 _ h1'
 rw [bN]
 refine aJP (kf:=bZ) (vf:=bZ) fun mb ob hm hw hf=>?_
 have g3:=g1.new hw hm (o:=ob)
 generalize Mem.set M1 mb _ = M3 at g3 ⊢
 have hbld:(aJ PP w0).oF tJt [(0,.pointer (some ⟨pj,0,none⟩)),(1,.map (some mb))] = some (.agg #[.pointer (some ⟨pj,0,none⟩),.map (some mb)]):=by kernel_rfl
 simp only [hbld,aC,aZ,aW,bN,aU]
 refine sZ g3 fun jt F4 M4 l4 lm4 o4 g4=>?_
 exact hK F4 M4 jt pj mb ob l4 o4 hf g4
theorem aJF (h:HO w0 F M os A) (hK:∀ M' bc,HO w0 F M' os (star (bA bc [.int .i64 0] aDp) A)→R (.pointer (some ⟨bc,0,none⟩)) M'):C PP w0 Id.kH #[] R M:=by
 apply kH.go
 unfold kH.T aH
 have hbld:(aJ PP w0).oF aDp [] = some (.agg #[.int .i64 0]):=by kernel_rfl
 simp only [hbld,aC,aZ,aW,aL,aU]
 exact jQ h fun bc M' lm h'=>hK M' bc h'
theorem aKp {k:Int} {n:Nat} (h:HO w0 F M os A) (hk1:1≤k) (hk3:k≤3) (h1:1≤n) (h2:n≤300)
  (hK:∀ F' M' X Y,Mem.le F F'→wH w0 F' X→jR w0 F' M' os X Y A→c9 Y (qL.new n) 2→aEl Y→R (.tuple #[.pointer (some ⟨X.d,0,none⟩),.int .i64 0]) M') :
  C PP w0 Id.bH #[.int .i64 k,.int .i64 n] R M:=by
 apply bH.go
 intro aB H
 unfold bH.T aH
 have hw:tQ k:=⟨hk1,hk3⟩
 refine aBl ?_
 rw [bU,decide_eq_true hw,Bool.not_true,mE]
 refine aGl hw (by omega) (by omega) ?_
 rw [Int.toNat_natCast]
 simp only [cD,aW,aL,bU,aU,Bool.not_true,mE]
 refine aFv h h1 h2 fun F1 M1 q a t bh bi ma me oa oe l1 oT hfa hfe g1=>?_
 simp only [cD,aW,bN,aL,aU]
 refine aKs g1 (by omega) (by omega) fun F2 M2 jt pj mb ob l2 oJ hfb g2=>?_
 rw [bN]
 refine aJP (kf:=bZ) (vf:=Value.int .i64) fun mw ow hm hw2 hfw=>?_
 have g3:=(g2.new hw2 hm (o:=ow)).aX aA.dp
 generalize Mem.set M2 mw _ = M3 at g3 ⊢
 refine aJF g3 fun M4 bc g4'=>?_
 have g4:=g4'.aX aA.dp5
 have hbld:(aJ PP w0).oF tDi [(0,.int .i64 k),(1,.int .i64 n),(2,.pointer (some ⟨q,0,none⟩)),(4,.pointer (some ⟨jt,0,none⟩)),(5,.map (some mw)),(6,.pointer (some ⟨bc,0,none⟩)),(7,.int .i64 (2000 + 1600 * (bl (n + 1):Int)))] =
   some (.agg #[.int .i64 k,.int .i64 n,.pointer (some ⟨q,0,none⟩),.int .i64 0,.int .i64 0,.int .i64 0,.int .i64 0,.pointer (some ⟨jt,0,none⟩),.map (some mw),.pointer (some ⟨bc,0,none⟩),.int .i64 (2000 + 1600 * (bl (n + 1):Int)),.int .i64 0,.int .i64 0]):=by kernel_rfl
 simp only [bN,hbld,aC,aZ,aW,aL,aU]
 refine jQ g4 fun dd M5 lm5 g5'=>?_
 have hperm:((mw,ow)::(mb,ob)::(ma,oa)::(me,oe)::os).Perm ((ma,oa)::(me,oe)::(mb,ob)::(mw,ow)::os):=by
  refine (aDE (mw,ow) (mb,ob) (ma,oa) ((me,oe)::os)).trans (List.Perm.cons _ ?_)
  refine (aDE (mw,ow) (mb,ob) (me,oe) os).trans (List.Perm.cons _ ?_)
  exact List.Perm.swap _ _ _
 let X:vP:=⟨dd,q,a,t,bh,bi,me,ma,jt,pj,mb,mw,bc⟩
 have g5:HO w0 F2 M5 (DO X oa oe ob ow os) (DB X ⟨n,0,AS.new (2 * n),⟨64,[],[]⟩,⟨n,[],[]⟩,fun _=>none,fun _=>none⟩ ⟨n,[],[]⟩ 0 k n (0,0) (0,0) (2000 + 1600 * (bl (n + 1):Int)) 0 0 A) :=
  (g5'.aX aA.dp6).perm hperm
 have oT2:=oT.le l2
 have hv0:=eB.aL1 h1 h2
 refine ⟨3,?_⟩
 show bH.L1 aB (2 + 1) k (some ⟨q,0,none⟩) (some ⟨dd,0,none⟩) 0 M5
 refine Eq.mpr (H.L1 ..) ?_
 unfold bH.L1.T aH
 rw [cR,if_pos (by omega)]
 simp only [aT,add_eq,Nat.zero_add,xK,aC,aZ,aW,aL,aU]
 refine uR oT2 hv0 (by omega) hk1 hk3 (by simp) g5 fun M6 S1 r g6 hv1 hnil1 em en eip eat een hst=>?_
 simp only [aZ,aW,aL,aU]
 refine ⟨⟨by omega,by omega⟩,?_⟩
 refine aGV (o:=3) a9 (by exact (by decide:5≤13)) iS (g6.aX aA.sev) fun M7 g7'=>?_
 have hov:eO (dV X k n (0,0) (0,0) (2000 + 1600 * (bl (n + 1):Int)) 0 0) 3 [.int .i64 r.1,.int .i64 r.2] = dV X k n r (0,0) (2000 + 1600 * (bl (n + 1):Int)) 0 0:=by
  have:=eE [.int .i64 k,.int .i64 n,.pointer (some ⟨X.q,0,none⟩)] [.int .i64 0,.int .i64 0] [.int .i64 0,.int .i64 0,.pointer (some ⟨X.jt,0,none⟩),.map (some X.mw),.pointer (some ⟨X.bc,0,none⟩),.int .i64 (2000 + 1600 * (bl (n + 1):Int)),.int .i64 0,.int .i64 0] [.int .i64 r.1,.int .i64 r.2] rfl (o:=3) rfl
  simpa using this
 rw [hov] at g7'
 have g7:HO w0 F2 M7 (DO X oa oe ob ow os) (DB X S1 ⟨n,[],[]⟩ 0 k n r (0,0) (2000 + 1600 * (bl (n + 1):Int)) 0 0 A):=g7'.aX aA.bck
 show bH.L1 aB (1 + 1) k (some ⟨q,0,none⟩) (some ⟨dd,0,none⟩) (lN (0 + 1)) M7
 (rw [show lN (0 + 1) = 1 from rfl];refine Eq.mpr (H.L1 ..) ?_)
 unfold bH.L1.T aH
 rw [cR,if_pos (by omega)]
 simp only [aT,add_eq,Nat.zero_add,xK,aC,aZ,aW,aL,aU]
 refine uR oT2 hv1 (by omega) hk1 hk3 (by simp) g7 fun M8 S2 r2 g8 hv2 hnil2 em2 en2 eip2 eat2 een2 hst2=>?_
 simp only [aZ,aW,aL,aU]
 refine ⟨⟨by omega,by omega⟩,?_⟩
 refine aGV (o:=5) a9 (by exact (by decide:7≤13)) iS (g8.aX aA.sev) fun M9 g9'=>?_
 have hov2:eO (dV X k n r (0,0) (2000 + 1600 * (bl (n + 1):Int)) 0 0) 5 [.int .i64 r2.1,.int .i64 r2.2] = dV X k n r r2 (2000 + 1600 * (bl (n + 1):Int)) 0 0:=by
  have:=eE [.int .i64 k,.int .i64 n,.pointer (some ⟨X.q,0,none⟩),.int .i64 r.1,.int .i64 r.2] [.int .i64 0,.int .i64 0] [.pointer (some ⟨X.jt,0,none⟩),.map (some X.mw),.pointer (some ⟨X.bc,0,none⟩),.int .i64 (2000 + 1600 * (bl (n + 1):Int)),.int .i64 0,.int .i64 0] [.int .i64 r2.1,.int .i64 r2.2] rfl (o:=5) rfl
  simpa using this
 rw [hov2] at g9'
 have g9:HO w0 F2 M9 (DO X oa oe ob ow os) (DB X S2 ⟨n,[],[]⟩ 0 k n r r2 (2000 + 1600 * (bl (n + 1):Int)) 0 0 A):=g9'.aX aA.bck
 show bH.L1 aB (0 + 1) k (some ⟨q,0,none⟩) (some ⟨dd,0,none⟩) (lN (1 + 1)) M9
 (rw [show lN (1 + 1) = 2 from rfl];refine Eq.mpr (H.L1 ..) ?_)
 unfold bH.L1.T aH
 rw [cR,if_neg (by omega)]
 have hmo:S2.most = (n:Int):=em2.trans em
 have hfa2:dM (Value.int .i64) bZ S2.at_ oa:=by rw [eat2,eat];exact hfa
 have hfe2:dM bZ mK S2.en oe:=by rw [een2,een];exact hfe
 have hbl0:(0:Int)≤2000 + 1600 * (bl (n + 1):Int):=by omega
 refine hK F2 M9 X ⟨k,S2,[],⟨r,k, -1,[]⟩,⟨r2,k, -1,[]⟩,⟨n,[],[]⟩,fun _=>none,fun _=>none,0,2000 + 1600 * (bl (n + 1):Int),0,0⟩ (Mem.le_trans l1 l2) ⟨oT2,oJ⟩ (jR.of hfa2 hfe2 hfb hfw g9 hmo rfl rfl)
  ⟨hv2,⟨hk1,hk3⟩,rfl,rfl,rfl,by show S2.ip.pl = _;rw [eip2,eip];rfl,hmo,rfl,by show gC 0;unfold gC;omega,en2.trans en,rfl,fun j hj=>(by cases hj),fun j hj=>(by cases hj),fun j hj=>(by cases hj),fun r x hx=>(by cases hx),fun j hj=>(by cases hj),fun b g v hv=>?_,List.nodup_nil,fun j hj=>(by cases hj)⟩
  ⟨by show _ = 2000 + 1600 * (bl (S2.most.toNat + 1):Int);rw [hmo,Int.toNat_natCast],hbl0,Int.le_refl _,hbl0⟩
 ·obtain ⟨j,q1,q2,q3⟩:=PS.bK hv
  simp at q2
end
end HL
namespace HL
theorem aKA {l:List bR} {e:bR} {k:Nat} (hk:k≤l.length) (hs:tF l) (h1:∀ (j:Nat) x,k≤j→l[j]? = some x→Lt e x) (h2:∀ x,0 < k→l[k - 1]? = some x→¬ Lt e x):tF (l.take k ++ e::l.drop k):=by
 have hs2:tF (l.take k ++ l.drop k):=by rw [List.take_append_drop];exact hs
 obtain ⟨a1,a2,a3⟩:=List.pairwise_append.1 hs2
 refine List.pairwise_append.2 ⟨a1,List.pairwise_cons.2 ⟨fun x hx=>?_,a2⟩,fun x hx y hy=>?_⟩
 ·obtain ⟨j,hj⟩:=List.getElem?_of_mem hx
  rw [List.getElem?_drop] at hj
  exact (h1 (k + j) x (by omega) hj).aH8
 ·rcases List.mem_cons.1 hy with rfl | hy
  ·-- not behind it
   obtain ⟨j,hj⟩:=List.getElem?_of_mem hx
   have hjk:j < k:=by
    have:=(List.getElem?_eq_some_iff.1 hj).1
    rw [List.length_take] at this;omega
   rw [List.getElem?_take_of_lt hjk] at hj
   by_cases hj2:j = k - 1
   ·subst hj2
    exact h2 x (by omega) hj
   ·have hlt:k - 1 < l.length:=by omega
    have hk1:=List.getElem?_eq_getElem hlt
    have h3:=h2 _ (by omega) hk1
    have h4:¬ Lt l[k - 1] x:=by
     have hjl:=(List.getElem?_eq_some_iff.1 hj).1
     have:=(List.pairwise_iff_getElem.1 hs) j (k - 1) hjl hlt (by omega)
     rw [(List.getElem?_eq_some_iff.1 hj).2] at this
     exact this
    exact nLt.tr h4 h3
  ·exact a3 x hx y hy
section
variable {w0:World} {M M0 F:Mem} {R:VP}
def emp:cI:=fun r=>r = []
theorem aA.self {P:cI} (h:aA w0 F M P):aA w0 M M emp:=⟨[],rfl,Fit.nil (Mem.le_refl _)⟩
theorem aA.aEM {P A:cI} {M':Mem} (h:aA w0 F M P) (h2:aA w0 M M' (star A emp)):Mem.le M M'∧aA w0 F M' (star A P):=by
 refine ⟨h2.fr,h.beside ?_⟩
 obtain ⟨r,⟨r1,r2,rfl,h3,h4⟩,h5⟩:=h2
 have:r2 = []:=h4
 subst this
 rw [List.append_nil] at h5
 exact ⟨r1,h3,h5⟩
theorem aA.aL7 {A B Q:cI} (h:aA w0 F M (star A (star B Q))):aA w0 F M (star A Q):=by
 obtain ⟨r,⟨r1,r2,rfl,q1,r3,r4,rfl,q2,q3⟩,q4⟩:=h
 exact ⟨r1 ++ r4,⟨r1,r4,rfl,q1,q3⟩,(q4.perm (r':=(r1 ++ r4) ++ r3) (by rw [List.append_assoc];exact (List.perm_append_comm).append_left r1)).drop⟩
theorem aHM {Q:cI} {s:SV} {l:List bR} (hQ:aA w0 F M Q) (hs:wK w0 M s l) (hb:l.length≤100000) (h:∀ M' s' z,Mem.le M M'→aA w0 F M' (star (Es s' z) Q)→tF z→z.Perm l→R (SV.v s') M'):C PP w0 Id.cC #[SV.v s] R M:=by
 apply cC.go
 intro aB H
 unfold cC.T aH
 have hsn:=hs.len
 have outer:∀ (k i:Nat) (out:SV) (z:List bR) (M':Mem),i≤l.length→l.length < i + k→aA w0 M M' (star (Es out z) emp)→tF z→z.Perm (l.take i)→cC.L1 aB k s out (i:Int) M':=by
  intro k
  induction k with
  | zero=>intro i out z M' h1 h2;omega
  | succ k ih =>
   intro i out z M' hi hk hH hz hp
   refine Eq.mpr (H.L1 ..) ?_
   unfold cC.L1.T aH
   rw [cR]
   split
   ·have hlt:i < l.length:=by omega
    have ex:=List.getElem?_eq_getElem hlt
    generalize hxv:l[i] = x at ex
    have hzl:z.length = i:=by rw [hp.length_eq,List.length_take];omega
    have fin:∀ (kk:Nat) (M2:Mem),kk≤z.length→aA w0 M M2 (star (Es out z) emp)→(∀ (j:Nat) y,kk≤j→z[j]? = some y→Lt x y)→(∀ y,0 < kk→z[kk - 1]? = some y→¬ Lt x y)→cC.J2 aB k s out (i:Int) (kk:Int) M2:=by
     intro kk M2 hkk hH2 hj1 hj2
     have hz2:=aKA hkk hz hj1 hj2
     have hp2:(z.take kk ++ x::z.drop kk).Perm (l.take (i + 1)):=by
      refine List.perm_middle.trans ?_
      rw [List.take_append_drop,List.take_add_one,ex]
      exact (List.Perm.cons x hp).trans (List.perm_append_singleton x _).symm
     refine Eq.mpr (H.J2 ..) ?_
     unfold cC.J2.T aH
     have hn2:=hH2.aIc
     have hc2:=hH2.nJ.cap
     have t0:(0:Int).toNat = 0:=rfl
     simp only [t0,Int.toNat_natCast]
     refine ⟨⟨by omega,by omega,by omega⟩,?_⟩
     have last:∀ {X:cI} (M5:Mem) (s5:SV),aA w0 M M5 (star (Es s5 (z.take kk ++ [x])) (star (Es out z) X))→(∀ r,X r→True) →
       (aJ PP w0).app #[85,85] 85 [SV.v s5,.slice (if out.c = kk then out.a else out.a.map (·.add (kk * 2))) (out.n - kk) (out.c - kk)] (fun v24 M25=>shS v24 fun s26=>cC.L1 aB k s s26 (lN ((i:Int) + 1)) M25) M5:=by
      intro X M5 s5 hX _
      have hr:=hX.right.nJ.cut (lo:=kk) (hi:=z.length) hkk (Nat.le_refl _)
      rw [List.take_length] at hr
      rw [hn2]
      refine aHk (x:=out.cut kk z.length) hX hr (by simp;omega) fun M6 s6 h6=>?_
      rw [aM,bX (by omega)]
      refine ih (i + 1) s6 (z.take kk ++ x::z.drop kk) M6 (by omega) (by omega) ?_ hz2 hp2
      obtain ⟨r,⟨r1,r2,rfl,q1,q2⟩,q3⟩:=h6
      refine ⟨r1 ++ [],⟨r1,[],rfl,by simpa using q1,rfl⟩,?_⟩
      rw [List.append_nil]
      exact q3.drop
     have mid:∀ {X:cI} (M4:Mem) (s4 s3:SV),aA w0 M M4 (star (Es s4 (z.take kk)) (star (Es s3 [(x.1,x.2)]) (star (Es out z) X))) →
       (aJ PP w0).app #[85,85] 85 [SV.v s4,SV.v s3] (fun v M=>shS v fun s5=>(aJ PP w0).app #[85,85] 85 [SV.v s5,.slice (if out.c = kk then out.a else out.a.map (·.add (kk * 2))) (out.n - kk) (out.c - kk)] (fun v24 M25=>shS v24 fun s26=>cC.L1 aB k s s26 (lN ((i:Int) + 1)) M25) M) M4:=by
      intro X M4 s4 s3 hX
      refine aHk hX hX.right.nJ (by simp;omega) fun M5 s5 h5=>?_
      rw [aM]
      exact last M5 s5 h5.aL7 (fun _ _=>trivial)
     have head:∀ {X:cI} (M3:Mem) (s3:SV) (K:VP),aA w0 M M3 (star (Es s3 []) (star (Es out z) X))→(∀ M4 s4,aA w0 M M4 (star (Es s4 (z.take kk)) (star (Es out z) X))→K (SV.v s4) M4) →
       (aJ PP w0).app #[85,85] 85 [SV.v s3,.slice (if out.c = 0 then out.a else out.a.map (·.add (0 * 2))) (kk - 0) (out.c - 0)] K M3:=by
      intro X M3 s3 K hX hK
      have hr:=hX.right.nJ.cut (lo:=0) (hi:=kk) (by omega) hkk
      rw [List.drop_zero] at hr
      refine aHk (x:=out.cut 0 kk) hX hr (by simp;omega) fun M4 s4 h4=>?_
      rw [List.nil_append] at h4
      exact hK M4 s4 h4
     refine aMU hs hH2.fr i rfl ex fun ad had=>?_
     rw [Int.toNat_natCast] at had
     refine ⟨⟨by omega,by omega,by omega⟩,⟨?_,?_⟩⟩
     ·refine aIC hH2 fun M3 s3 l3 _ h3=>?_
      rw [aM]
      refine ⟨had M3 (Mem.le_trans hH2.fr l3),?_,?_⟩
      ·refine head M3 s3 _ h3 fun M4 s4 h4=>?_
       rw [aM]
       refine ⟨had M4 h4.fr,?_⟩
       refine aJf h4 x.1 x.2 fun M5 s5 l5 h5=>?_
       rw [aM]
       exact mid M5 s4 s5 h5.dY
      ·refine aJf h3 x.1 x.2 fun M4 s4 l4 h4=>?_
       rw [aM]
       have h4':aA w0 M M4 (star (Es s3 []) (star (Es out z) (star (Es s4 [(x.1,x.2)]) emp))):=by
        obtain ⟨r,⟨r1,r2,rfl,q1,r3,r4,rfl,q2,r5,r6,rfl,q3,q4⟩,q5⟩:=h4
        refine ⟨r3 ++ (r5 ++ (r1 ++ r6)),⟨r3,_,rfl,q2,r5,_,rfl,q3,r1,r6,rfl,q1,q4⟩,q5.perm ?_⟩
        rw [←List.append_assoc r3,←List.append_assoc r3,←List.append_assoc (r3 ++ r5),←List.append_assoc r1]
        exact List.perm_append_comm.append_right r6
       refine head M4 s3 _ h4' fun M5 s5 h5=>?_
       rw [aM]
       refine mid (X:=emp) M5 s5 s4 ?_
       obtain ⟨r,⟨r1,r2,rfl,q1,r3,r4,rfl,q2,r5,r6,rfl,q3,q4⟩,q5⟩:=h5
       refine ⟨r1 ++ (r5 ++ (r3 ++ r6)),⟨r1,_,rfl,q1,r5,_,rfl,q3,r3,r6,rfl,q2,q4⟩,q5.perm (List.Perm.append_left r1 ?_)⟩
       rw [←List.append_assoc,←List.append_assoc]
       exact List.perm_append_comm.append_right r6
     ·refine aJf hH2 x.1 x.2 fun M3 s3 l3 h3=>?_
      rw [aM]
      refine aIC h3 fun M4 s4 l4 _ h4=>?_
      rw [aM]
      have h4':aA w0 M M4 (star (Es s4 []) (star (Es out z) (star (Es s3 [(x.1,x.2)]) emp))):=by
       obtain ⟨r,⟨r1,r2,rfl,q1,r3,r4,rfl,q2,r5,r6,rfl,q3,q4⟩,q5⟩:=h4
       refine ⟨r1 ++ (r5 ++ (r3 ++ r6)),⟨r1,_,rfl,q1,r5,_,rfl,q3,r3,r6,rfl,q2,q4⟩,q5.perm (List.Perm.append_left r1 ?_)⟩
       rw [←List.append_assoc,←List.append_assoc]
       exact List.perm_append_comm.append_right r6
      refine head M4 s4 _ h4' fun M5 s5 h5=>?_
      rw [aM]
      refine mid (X:=emp) M5 s5 s3 ?_
      obtain ⟨r,⟨r1,r2,rfl,q1,r3,r4,rfl,q2,r5,r6,rfl,q3,q4⟩,q5⟩:=h5
      refine ⟨r1 ++ (r5 ++ (r3 ++ r6)),⟨r1,_,rfl,q1,r5,_,rfl,q3,r3,r6,rfl,q2,q4⟩,q5.perm (List.Perm.append_left r1 ?_)⟩
      rw [←List.append_assoc,←List.append_assoc]
      exact List.perm_append_comm.append_right r6
    have inner:∀ (k' kk:Nat) (M2:Mem),kk < k'→kk≤z.length→aA w0 M M2 (star (Es out z) emp)→(∀ (j:Nat) y,kk≤j→z[j]? = some y→Lt x y)→cC.L3 aB k k' s out (i:Int) (kk:Int) M2:=by
     intro k'
     induction k' with
     | zero=>intro kk M2 h1;omega
     | succ k' ih2 =>
      intro kk M2 h1 hkk hH2 hj1
      refine Eq.mpr (H.L3 ..) ?_
      unfold cC.L3.T aH
      rw [cR]
      split
      ·have hlt2:kk - 1 < z.length:=by omega
       have ey:=List.getElem?_eq_getElem hlt2
       generalize z[kk - 1] = y at ey
       refine nJ hs hH2.fr i rfl ex ?_
       refine nJ hH2.nJ (Mem.le_refl _) (kk - 1) (aEa (by omega) (by omega)) ey ?_
       refine yL (a:=x) (b:=y) fun M3 l3=>?_
       rw [bU,cR]
       split
       ·rename_i hb2
        rw [aEa (by omega) (by omega)]
        refine ih2 (kk - 1) M3 (by omega) (by omega) (hH2.le l3) fun j w hj hw=>?_
        by_cases hjk:j = kk - 1
        ·subst hjk;rw [ey] at hw;cases hw;exact hb2
        ·exact hj1 j w (by omega) hw
       ·rename_i hb2
        exact fin kk M3 hkk (hH2.le l3) hj1 fun w _ hw=>by rw [ey] at hw;cases hw;exact hb2
      ·exact fin kk M2 hkk hH2 hj1 fun w h0=>by omega
    have hn:=hH.aIc
    refine ⟨z.length + 1,?_⟩
    rw [hn]
    exact inner (z.length + 1) z.length M' (by omega) (Nat.le_refl _) hH fun j y hj hy=>by
     rw [List.getElem?_eq_none hj] at hy;cases hy
   ·have hil:i = l.length:=by omega
    rw [hil,List.take_length] at hp
    obtain ⟨g1,g2⟩:=hQ.aEM hH
    exact h M' out z g1 g2 hz hp
 exact ⟨l.length + 1,outer (l.length + 1) 0 ⟨none,0,0⟩ [] M (by omega) (by omega) (aA.oB hQ.self) List.Pairwise.nil (by simp)⟩
end
end HL
namespace HL
section
variable {w0:World} {F M:Mem} {R:VP} {os:vA} {A:cI}
theorem aA.aMl:aA w0 M M emp:=⟨[],rfl,Fit.nil (Mem.le_refl _)⟩
theorem aEH {n lo hi:Int} (h1:lo≤n) (h2:n≤hi) (h:R (.int .i64 n) M):C PP w0 Id.cT #[.int .i64 n,.int .i64 lo,.int .i64 hi] R M:=by
 apply cT.go
 intro aB H
 unfold cT.T aH
 simp only [cR]
 rw [if_pos (by omega),if_pos (by omega)]
 exact h
theorem aLS (h:R (.int .i64 500) M):C PP w0 Id.fI #[.int .i64 1,.int .i64 1,.int .i64 0] R M:=by
 apply fI.go
 intro aB H
 unfold fI.T aH
 refine aCA ?_
 rw [bU,decide_eq_true (by decide),dZ,fJ,if_neg (by decide)]
 refine aBl ?_
 (rw [bU,decide_eq_true (show tQ 1 by unfold tQ;omega),Bool.not_true,mE];refine Eq.mpr (H.J1 ..) ?_)
 unfold fI.J1.T aH
 simp only [fJ]
 rw [if_neg (by decide),if_neg (by decide),if_neg (by decide),if_neg (by decide),if_neg (by decide),if_neg (by decide)]
 exact h
theorem aJd (hK:∀ M',R (.bool true) M'):C PP w0 Id.fB #[] R M:=by
 apply fB.go
 intro aB H
 unfold fB.T aH
 refine aFv (n:=2) (HO.of (aA.aMl (w0:=w0) (M:=M))) (by decide) (by decide) fun F1 M1 q a t bh bi ma me oa oe l1 oT hfa hfe g1=>?_
 simp only [cD,aW,bN,aL,aU,aAJ Tryz.underlying24,aC,bU,Option.isNone_some,mE]
 rw [cB,if_pos rfl]
 show fB.J1 aB (some ⟨q,0,none⟩) M1
 refine Eq.mpr (H.J1 ..) ?_
 unfold fB.J1.T aH
 have hv0:=eB.aL1 (most:=2) (by decide) (by decide)
 simp only [aT,add_eq,Nat.zero_add,xK,aC,aZ,aW,aL,aU]
 refine uR oT hv0 (by omega) (by omega) (by omega) (by simp) g1 fun M2 S1 r g2 hv1 hnil em en eip eat een hst=>?_
 simp only [aZ,aW,aL,aU]
 refine kC (vs:=lL 0 r.1 r.2 0 0 0 0 0) qM (by rfl) eC g2 fun b3 F3 M3 l3 o3 g3=>?_
 have hr3:∀ {M':Mem} {e:TypeId},cS w0 M' b3 (lL 0 r.1 r.2 0 0 0 0 0) e→(aJ PP w0).ld 33 ⟨b3,1,none⟩ M' = some (.agg #[.int .i64 r.1,.int .i64 r.2]):=fun o=>kZ (vs:=[.int .i64 r.1,.int .i64 r.2]) a9 o (q9 rfl rfl)
 simp only [hr3 (o3.le g3.fr),aC,aZ,aW,aL,aU,aCD (h:=r)]
 have hfa1:dM (Value.int .i64) bZ S1.at_ oa:=by rw [eat];exact hfa
 have hfe1:dM bZ mK S1.en oe:=by rw [een];exact hfe
 refine vT (A:=[]) (B:=[]) (y:=⟨r,1, -1,[]⟩) (oT.le l3) hv1 (by omega) (by rw [em];decide) hfa1 hfe1 g3 fun M4 S2 oa2 oe2 i y2 hat hfa2 hfe2 g4 ey1 ey2 hv2 em2 en2 eip2 hst2=>?_
 obtain ⟨cc,hv2⟩:=hv2
 simp only [aZ,aW,aL,aU]
 refine kC (vs:=lL 0 0 0 i (S1.ip.gen i) 5 S1.next 0) qM (by rfl) eC g4 fun b5 F5 M5 l5 o5 g5=>?_
 have o35:=o3.le l5
 simp only [hr3 (o35.le g5.fr),aC,aZ,aW,aL,aU,aAa (i:=r)]
 have eT:eD ([] ++ [(⟨((i:Int),S1.ip.gen i),(⟨r,1, -1,[]⟩:Hv).h,cc,(5,S1.next)⟩:nH)]) y2.h≠[]:=by
  rw [ey1,List.nil_append,uM rfl];simp
 have hyr:y2.h = r:=ey1
 rw [←hyr]
 refine yR (A:=[]) (B:=[]) (y:=y2) ((oT.le l3).le l5) hv2 eT hfa2 hfe2 g5 fun M6 S3 x hx hxy hb hfa3 hfe3 g6 hv3 em3 en3 eip3 hst3=>?_
 have hxe:x = ⟨((i:Int),S1.ip.gen i),(⟨r,1, -1,[]⟩:Hv).h,cc,(5,S1.next)⟩:=by simpa using hx
 subst hxe
 simp only [aZ,aW,aL,aU]
 refine kC (vs:=lL 0 0 0 i (S1.ip.gen i) 5 S1.next 0) qM (by rfl) eC g6 fun b7 F7 M7 l7 o7 g7=>?_
 have hi:∀ {b:Nat} {M':Mem} {e:TypeId},cS w0 M' b (lL 0 0 0 i (S1.ip.gen i) 5 S1.next 0) e→(aJ PP w0).ld 33 ⟨b,3,none⟩ M' = some (.agg #[.int .i64 (i:Int),.int .i64 (S1.ip.gen i)]):=fun o=>kZ (vs:=[.int .i64 (i:Int),.int .i64 (S1.ip.gen i)]) a9 o (q9 rfl rfl)
 simp only [mB W.c25 ((o35.le l7).le g7.fr) (o:=0) rfl,mB W.c25 ((o5.le l7).le g7.fr) (o:=0) rfl,mB W.c2 (o7.le g7.fr) (o:=5) rfl,hi (o7.le g7.fr),hi ((o5.le l7).le g7.fr),aC,aL,aZ,aW,aU,aCW,bU]
 rw [fJ,if_pos rfl,fJ,if_pos rfl,fJ,if_pos rfl]
 simp only [BEq.rfl,Bool.and_self,dZ]
 refine aLS ?_
 rw [aL]
 exact hK M7
section
variable {X:vP} {Y:yK} {dm:Nat} {x:qL} {c:tW}
theorem aED (hD:jR w0 F M os X Y (star (eW dm x) A)) (hok:DOk x) (hn:gC x.now) (hct:gC c.time) (hK:∀ M',jR w0 F M' os X Y (star (eW dm (gJ x c).1) A)→R (gJ x c).2.v M') :
  C PP w0 Id.fK #[.pointer (some ⟨dm,0,none⟩),c.v] R M:=by
 obtain ⟨oa,oe,ob,ow,hfa,hfe,hfb,hfw,h⟩:=hD
 obtain ⟨F1,hB,l1,back⟩:=(h.aX aA.w9).wJ
 refine aK0 hB hok hn hct fun M' hC=>?_
 exact hK M' ⟨oa,oe,ob,ow,hfa,hfe,hfb,hfw,(back M' _ hC).aX aA.yT⟩
theorem aJ4 {k j:Int} (hk:gC k) (hj:gC j) (h:HO w0 F M os A)
  (hK:∀ F' M' X Y dm (n:Nat),1≤n→n≤60→(1≤j→j≤60→(n:Int) = j)→Mem.le F F'→wH w0 F' X→jR w0 F' M' os X Y (star (eW dm (qL.new n)) A)→c9 Y (qL.new n) 2→aEl Y→R (.tuple #[.pointer (some ⟨X.d,0,none⟩),.pointer (some ⟨dm,0,none⟩)]) M') :
  C PP w0 Id.fU #[.int .i64 k,.int .i64 j] R M:=by
 apply fU.go
 unfold fU.T aH
 have main:∀ m:Int,1≤m→m≤60→(1≤j→j≤60→m = j)→C PP w0 Id.cT #[.int .i64 k,.int .i64 1,.int .i64 3] (fun v M=>mZ .i64 v fun n_1=>(aJ PP w0).call Id.bH #[.int .i64 n_1,.int .i64 m] (fun v M=>shT v fun n_2=>cM n_2 fun u r=>shP u fun n_3=>cM r fun u r=>mZ .i64 u fun n_4=>oY r (HL.ob ((aJ PP w0).bq .eql 60 (.tmp 18) (.const (.pointer none)) (.pointer n_3) (.pointer none)) fun v=>shB v fun n_5=>bs n_5 (R (.tuple #[.pointer none,.pointer none]) M) (bs (n_4 != 0) (R (.tuple #[.pointer none,.pointer none]) M) ((aJ PP w0).call Id.qS #[.int .i64 m] (fun v M=>shP v fun n=>R (.tuple #[.pointer n_3,.pointer n]) M) M)))) M) M:=by
  intro m m1 m2 m3
  refine aCh hk (by omega) (by omega) (by omega) (by omega) fun kk k1 k2=>?_
  rw [aL]
  obtain ⟨n,rfl⟩:∃ n:Nat,m = (n:Int):=⟨m.toNat,by omega⟩
  refine aKp h (by omega) (by omega) (by omega) (by omega) fun F1 M1 X Y l1 hX hD hv hb=>?_
  simp only [cD,aW,bN,aL,aU,aAJ Tryz.underlying60,aC,bU,Option.isNone_some,mE]
  rw [cB,if_pos rfl]
  obtain ⟨oa,oe,ob,ow,hfa,hfe,hfb,hfw,h1⟩:=hD
  obtain ⟨F2,hB,l2,back⟩:=h1.wJ
  refine aJ1 hB (by omega) (by omega) fun M2 dm hC=>?_
  rw [bN]
  exact hK F1 M2 X Y dm n (by omega) (by omega) m3 l1 hX ⟨oa,oe,ob,ow,hfa,hfe,hfb,hfw,(back M2 _ hC).aX aA.yT⟩ hv hb
 by_cases hin:1≤j∧j≤60
 ·refine aEH hin.1 hin.2 ?_
  rw [aL]
  exact main j hin.1 hin.2 fun _ _=>rfl
 ·refine aCh hj (by omega) (by omega) (by omega) (by omega) fun m m1 m2=>?_
  rw [aL]
  exact main m m1 m2 fun a b=>absurd ⟨a,b⟩ hin
end
end
end HL
namespace HL
section
variable {w0:World} {F M:Mem} {R:VP} {os:vA} {A Q:cI}
section
variable {X:vP} {Y:yK} {d:qL} {tm:Int} {s:SV} {l:List bR}
theorem jR.aIx (hD:jR w0 F M os X Y Q):jR w0 F M os X Y (star (Es ⟨none,0,0⟩ []) Q):=by
 obtain ⟨oa,oe,ob,ow,hfa,hfe,hfb,hfw,h⟩:=hD
 obtain ⟨F1,hB,l1,back⟩:=h.wJ
 exact ⟨oa,oe,ob,ow,hfa,hfe,hfb,hfw,(back M _ (aA.tV hB (Mem.le_refl _) wE.nil)).aX aA.yT⟩
theorem jR.rdL (hD:jR w0 F M os X Y (star (Es s l) Q)):wK w0 M s l:=by
 obtain ⟨oa,oe,ob,ow,hfa,hfe,hfb,hfw,h⟩:=hD
 exact (h.aX aA.w9).h.nJ
theorem jR.aMT (hD:jR w0 F M os X Y (star (Es s l) Q)) (hb:l.length≤1000) {x y:Int} {K:SV→Mem→Prop} (hK:∀ M' s',jR w0 F M' os X Y (star (Es s' (l ++ [(x,y)])) Q)→K s' M') :
  (aJ PP w0).bsl 30 1 [(0,.agg #[.int .i64 x,.int .i64 y])] (fun v M1=>shS v fun s1=>(aJ PP w0).app #[30,30] 30 [SV.v s,SV.v s1] (fun v M2=>shS v fun s2=>K s2 M2) M1) M:=by
 obtain ⟨oa,oe,ob,ow,hfa,hfe,hfb,hfw,h⟩:=hD
 obtain ⟨F1,hB,l1,back⟩:=(h.aX aA.w9).wJ
 refine aF5 hB x y fun M1 s1 lm1 h1=>?_
 rw [aM]
 refine aFE h1.right h1.nJ (by simp;omega) fun M2 s2 h2=>?_
 rw [aM]
 exact hK M2 s2 ⟨oa,oe,ob,ow,hfa,hfe,hfb,hfw,(back M2 _ h2).aX aA.yT⟩
theorem jR.box {rp:fG} (hD:jR w0 F M os X Y Q) {K:Nat→Mem→Prop} (hK:∀ b F' M',Mem.le F F'→cS w0 F' b rp.cells iQ→jR w0 F' M' os X Y Q→K b M') :
  (aJ PP w0).nw [.int .i64 0,.int .i64 0,.int .i64 0,.int .i64 0,.int .i64 0,.int .i64 0] iQ (fun b M1=>(aJ PP w0).st iQ ⟨b,0,none⟩ (.agg #[.int .i64 rp.why,.int .i64 rp.at_,.int .i64 rp.gen,.int .i64 rp.time,.int .i64 rp.data,.int .i64 rp.n]) (fun M2=>K b M2) M1) M:=by
 obtain ⟨oa,oe,ob,ow,hfa,hfe,hfb,hfw,h⟩:=hD
 exact kC (vs:=rp.cells) lQ (by rfl) (iJ _) h fun b F' M' l' o' h'=>hK b F' M' l' o' ⟨oa,oe,ob,ow,hfa,hfe,hfb,hfw,h'⟩
theorem aMn {b:Nat} {rp:fG} {e:TypeId} (o:cS w0 M b rp.cells e):(aJ PP w0).ld 33 ⟨b,1,none⟩ M = some (.agg #[.int .i64 rp.at_,.int .i64 rp.gen]):=kZ (o:=1) (vs:=[.int .i64 rp.at_,.int .i64 rp.gen]) a9 o (q9 rfl rfl)
end
end
end HL
namespace HL
section
variable {w0:World} {F M:Mem} {R:VP}
theorem aJz (a g t:Int):(aJ PP w0).oF qT [(0,.int .i64 2),(2,.agg #[.int .i64 a,.int .i64 g]),(3,.int .i64 t)] = some (tW.v ⟨2,0,a,g,t,0⟩):=by kernel_rfl
end
end HL
namespace HL
section
variable {w0:World} {F M:Mem} {R:VP} {os:vA} {X:vP} {Y:yK} {Q Q':cI} {dm:Nat} {d:qL}
theorem jR.zJ (hD:jR w0 F M os X Y Q) (f:∀ F M,aA w0 F M Q→aA w0 F M Q'):jR w0 F M os X Y Q':=by
 obtain ⟨oa,oe,ob,ow,hfa,hfe,hfb,hfw,h⟩:=hD
 exact ⟨oa,oe,ob,ow,hfa,hfe,hfb,hfw,h.aX fun h=>h.oG fun _ _ h=>h.oG fun _ _ h=>h.oG fun _ _ h=>h.oG fun _ _ h=>h.oG fun _ _ h=>h.oG fun _ _ h=>h.oG fun F M h=>f F M h⟩
theorem jR.nwC (hD:jR w0 F M os X Y Q) {zs:List Value} {T:TypeId} {K:Nat→Mem→Prop} (hK:∀ b M',Mem.le M M'→jR w0 F M' os X Y (star (bA b zs T) Q)→K b M'):(aJ PP w0).nw zs T K M:=by
 obtain ⟨oa,oe,ob,ow,hfa,hfe,hfb,hfw,h⟩:=hD
 exact jQ h fun b M' lm h'=>hK b M' lm ⟨oa,oe,ob,ow,hfa,hfe,hfb,hfw,h'.aX aA.yT⟩
theorem jR.pQ {b:Nat} {zs vs:List Value} {T:TypeId} (hg:gV PP T vs.length = true) (hz:zs.length = vs.length) (hone:∀ v∈vs,bS v = true) (hD:jR w0 F M os X Y (star (bA b zs T) Q)) {K:Mem→Prop} (hK:∀ M',jR w0 F M' os X Y (star (bA b vs T) Q)→K M') :
  (aJ PP w0).st T ⟨b,0,none⟩ (.agg vs.toArray) (fun M2=>K M2) M:=by
 obtain ⟨oa,oe,ob,ow,hfa,hfe,hfb,hfw,h⟩:=hD
 exact stW hg hz hone (h.aX aA.w9) fun M' h'=>hK M' ⟨oa,oe,ob,ow,hfa,hfe,hfb,hfw,h'.aX aA.yT⟩
theorem jR.aKt {b:Nat} {zs:List Value} {T:TypeId} (hD:jR w0 F M os X Y (star (bA b zs T) Q)):∃ F',Mem.le F F'∧cS w0 F' b zs T∧jR w0 F' M os X Y Q:=by
 obtain ⟨oa,oe,ob,ow,hfa,hfe,hfb,hfw,h⟩:=hD
 obtain ⟨F',l,o,h'⟩:=(h.aX aA.w9).fY
 exact ⟨F',l,o,oa,oe,ob,ow,hfa,hfe,hfb,hfw,h'⟩
theorem jR.aMK (hD:jR w0 F M os X Y (star (eW dm d) Q)):∃ s:SV,(aJ PP w0).ld 71 ⟨dm,4,none⟩ M = some (SV.v s)∧s.n = d.l.length:=by
 obtain ⟨oa,oe,ob,ow,hfa,hfe,hfb,hfw,h⟩:=hD
 obtain ⟨p,s,hd⟩:=eW.open_ (h.aX aA.w9).h
 exact ⟨s,mB W.c71 hd.bC rfl,hd.n⟩
theorem aC6 (c:tW):∀ v∈c.cells,bS v = true:=by
 intro v hv
 simp only [tW.cells,List.mem_cons,List.not_mem_nil,or_false] at hv
 rcases hv with rfl | rfl | rfl | rfl | rfl | rfl <;> rfl
theorem aB7:gV PP qT 6 = true:=W.g68
end
end HL
namespace HL
structure FlI (d:qL) (n i:Nat):Prop where
 most:d.most = (n:Int)
 now:d.now = 0
 len:d.l.length = i
 cnt:iR 1 d.l = i / 2
 key:∀ j∈d.l, -1000≤j.key∧j.key≤1000
structure DrI (d:qL) (m:Nat) (last:Int):Prop where
 now:d.now = 1000
 len:d.l.length = m
 q:∀ j∈d.l,j.queue = 0
 key:∀ j∈d.l,last≤j.key∧j.key≤1000
section
variable {w0:World} {F M:Mem} {R:VP} {os:vA} {X:vP} {Y:yK} {Q:cI}
theorem jR.le {M':Mem} (hD:jR w0 F M os X Y Q) (hl:Mem.le M M'):jR w0 F M' os X Y Q:=by
 obtain ⟨oa,oe,ob,ow,hfa,hfe,hfb,hfw,h⟩:=hD
 exact ⟨oa,oe,ob,ow,hfa,hfe,hfb,hfw,h.le hl⟩
theorem aIi (q t x:Int):(aJ PP w0).oF qT [(0,.int .i64 1),(1,.int .i64 q),(3,.int .i64 t),(4,.int .i64 x)] = some (tW.v ⟨1,q,0,0,t,x⟩):=by kernel_rfl
theorem aJC (q:Int):(aJ PP w0).oF qT [(0,.int .i64 6),(1,.int .i64 q)] = some (tW.v ⟨6,q,0,0,0,0⟩):=by kernel_rfl
end
end HL
namespace HL
theorem wT {P S T:List bR} {x y:bR}:(P ++ x::(S ++ y::T))[P.length]? = some x:=by simp
theorem wR {P S T:List bR} {x y:bR}:(P ++ x::(S ++ y::T))[P.length + 1 + S.length]? = some y:=by
 rw [List.getElem?_append_right (by omega),show P.length + 1 + S.length - P.length = S.length + 1 from by omega,List.getElem?_cons_succ]
 simp
theorem aEx {P S T:List bR} {x y:bR}:((P ++ x::(S ++ y::T)).set P.length y).set (P.length + 1 + S.length) x = P ++ y::(S ++ x::T):=by
 rw [List.set_append_right _ _ (Nat.le_refl _),Nat.sub_self,List.set_cons_zero,List.set_append_right _ _ (by omega),show P.length + 1 + S.length - P.length = S.length + 1 from by omega,List.set_cons_succ,
  List.set_append_right _ _ (Nat.le_refl _),Nat.sub_self,List.set_cons_zero]
theorem aIF {P S T:List bR} {x y:bR}:((P ++ x::(S ++ y::T)).set (P.length + 1 + S.length) x).set P.length y = P ++ y::(S ++ x::T):=by
 rw [List.set_comm _ _ (by omega)]
 exact aEx
theorem aC8 {P S:List bR} {x:bR} (h:tF (P ++ S)) (h1:∀ y∈S,¬ Lt y x) (h2:∀ y∈P,¬ Lt x y):tF (P ++ x::S):=by
 obtain ⟨q1,q2,q3⟩:=List.pairwise_append.1 h
 refine List.pairwise_append.2 ⟨q1,List.pairwise_cons.2 ⟨h1,q2⟩,fun a ha b hb=>?_⟩
 rcases List.mem_cons.1 hb with rfl | hb
 ·exact h2 a ha
 ·exact q3 a ha b hb
section
variable {w0:World} {M M0 F:Mem} {R:VP}
theorem aGh {s:SV} {l l':List bR} {Q:cI} (h:aA w0 F M (star (Es s l) Q)) {i1 i2:Int} (p q:Nat) (e1:i1 = (p:Int)) (e2:i2 = (q:Int)) {x y:bR} (hp:l[p]? = some x) (hq:l[q]? = some y) (hl:(l.set p y).set q x = l') {K:Mem→Prop} (hK:∀ M',aA w0 F M' (star (Es s l') Q)→K M') :
  nc s.a fun a2=>(0≤i2∧i2 < ((s.n:Nat):Int))∧ob ((aJ PP w0).ld 44 (a2.add (i2.toNat * 2)) M) fun v3=>shA v3 fun l4=>cM l4 fun u5 r6=>mZ .i64 u5 fun n7=>cM r6 fun u8 r9=>mZ .i64 u8 fun n10=>oY r9
   (nc s.a fun a11=>(0≤i1∧i1 < ((s.n:Nat):Int))∧ob ((aJ PP w0).ld 44 (a11.add (i1.toNat * 2)) M) fun v12=>shA v12 fun l13=>cM l13 fun u14 r15=>mZ .i64 u14 fun n16=>cM r15 fun u17 r18=>mZ .i64 u17 fun n19=>oY r18
    (nc s.a fun a20=>(0≤i1∧i1 < ((s.n:Nat):Int))∧(aJ PP w0).st 44 (a20.add (i1.toNat * 2)) (.agg #[.int .i64 n7,.int .i64 n10]) (fun M21 =>
     nc s.a fun a22=>(0≤i2∧i2 < ((s.n:Nat):Int))∧(aJ PP w0).st 44 (a22.add (i2.toNat * 2)) (.agg #[.int .i64 n16,.int .i64 n19]) (fun M23=>K M23) M21) M)):=by
 subst hl
 refine nJ h.nJ (Mem.le_refl _) q e2 hq ?_
 refine nJ h.nJ (Mem.le_refl _) p e1 hp ?_
 have vQ:=(List.getElem?_eq_some_iff.1 hp).1
 have hql:=(List.getElem?_eq_some_iff.1 hq).1
 refine stE h p e1 vQ fun M1 h1=>?_
 refine stE h1 q e2 (by simpa using hql) fun M2 h2=>?_
 exact hK M2 h2
theorem vU {s:SV} {Q:cI} {f:FuncId × Array Value} (A U C V B:List bR) {a b n:Int} (hUV:U.length = V.length) (hb:(A ++ (U ++ (C ++ (V ++ B)))).length≤1000000) (h:aA w0 F M (star (Es s (A ++ (U ++ (C ++ (V ++ B))))) Q))
  (ea:a = (A.length:Int)) (eb:b = ((A.length + U.length + C.length:Nat):Int)) (en:n = (U.length:Int)) (hR:∀ M',aA w0 F M' (star (Es s (A ++ (V ++ (C ++ (U ++ B))))) Q)→R (.tuple #[]) M') :
  Go.Proofs.YtodobkbnmjgkdaaGreat.HL.C PP w0 Id.swC #[SV.v s,.int .i64 a,.int .i64 b,.int .i64 n,.func (.func f.1) #[] f.2] R M:=by
 apply swC.go
 intro aB H
 unfold swC.T aH
 subst ea eb en
 simp only [List.length_append] at hb
 have key:∀ (k:Nat) (U1 U2 V1 V2:List bR) (M':Mem),U = U1 ++ U2→V = V1 ++ V2→U1.length = V1.length→U2.length < k→aA w0 F M' (star (Es s (A ++ (V1 ++ (U2 ++ (C ++ (U1 ++ (V2 ++ B))))))) Q) →
   swC.L1 aB k s (A.length:Int) ((A.length + U.length + C.length:Nat):Int) (U.length:Int) (U1.length:Int) M':=by
  intro k
  induction k with
  | zero=>intro U1 U2 V1 V2 M' h1 h2 h3 h4;omega
  | succ k ih =>
   intro U1 U2 V1 V2 M' hU hV h1 hk hH
   have eU:=congrArg List.length hU
   have eV:=congrArg List.length hV
   rw [List.length_append] at eU eV
   refine Eq.mpr (H.L1 ..) ?_
   unfold swC.L1.T aH
   rw [cR]
   split
   ·match U2,V2,hU,hV,hk,hH,eU,eV with
    | [],_,_,_,_,_,eU,eV=>simp at eU;omega
    | x::U2,[],_,_,_,_,eU,eV=>simp at eU eV;omega
    | x::U2,y::V2,hU,hV,hk,hH,eU,eV =>
     simp only [List.length_cons] at eU eV hk
     have el:A ++ (V1 ++ (x::U2 ++ (C ++ (U1 ++ (y::V2 ++ B))))) = (A ++ V1) ++ x::((U2 ++ (C ++ U1)) ++ y::(V2 ++ B)):=by simp
     rw [el] at hH
     refine aGh hH (l':=(A ++ V1) ++ y::((U2 ++ (C ++ U1)) ++ x::(V2 ++ B))) (A ++ V1).length ((A ++ V1).length + 1 + (U2 ++ (C ++ U1)).length) (by rw [aQ (by omega),List.length_append];omega)
      (by rw [aQ (by omega)];simp only [List.length_append];omega) wT wR aEx fun M2 h2=>?_
     rw [bX (by omega)]
     have:=ih (U1 ++ [x]) U2 (V1 ++ [y]) V2 M2 (by rw [hU];simp) (by rw [hV];simp) (by simp [h1]) (by omega) (by
      have e2:A ++ ((V1 ++ [y]) ++ (U2 ++ (C ++ ((U1 ++ [x]) ++ (V2 ++ B))))) = (A ++ V1) ++ y::((U2 ++ (C ++ U1)) ++ x::(V2 ++ B)):=by simp
      rw [e2];exact h2)
     rw [List.length_append,List.length_singleton] at this;exact this
   ·have hU2:U2 = []:=List.length_eq_zero_iff.1 (by omega)
    have hV2:V2 = []:=List.length_eq_zero_iff.1 (by omega)
    subst hU2 hV2
    rw [List.append_nil] at hU hV
    subst hU hV
    exact hR M' hH
 exact ⟨U.length + 1,key (U.length + 1) [] U [] V M rfl rfl rfl (by omega) h⟩
theorem aGY {s:SV} {Q:cI} {f:FuncId × Array Value} (A X Y B:List bR) {a m b:Int} (hX:X≠[]) (hY:Y≠[]) (hb:(A ++ (X ++ (Y ++ B))).length≤1000000) (h:aA w0 F M (star (Es s (A ++ (X ++ (Y ++ B)))) Q))
  (ea:a = (A.length:Int)) (em:m = ((A.length + X.length:Nat):Int)) (eb:b = ((A.length + X.length + Y.length:Nat):Int)) (hR:∀ M',aA w0 F M' (star (Es s (A ++ (Y ++ (X ++ B)))) Q)→R (.tuple #[]) M') :
  Go.Proofs.YtodobkbnmjgkdaaGreat.HL.C PP w0 Id.roC #[SV.v s,.int .i64 a,.int .i64 m,.int .i64 b,.func (.func f.1) #[] f.2] R M:=by
 apply roC.go
 intro aB H
 unfold roC.T aH
 simp only [List.length_append] at hb
 have key:∀ (k:Nat) (A' U V B':List bR) (M':Mem),U≠[]→V≠[]→U.length + V.length < k→A'.length + U.length = A.length + X.length→(A' ++ (U ++ (V ++ B'))).length≤1000000→A' ++ (V ++ (U ++ B')) = A ++ (Y ++ (X ++ B))→aA w0 F M' (star (Es s (A' ++ (U ++ (V ++ B')))) Q) →
   roC.L1 aB k s m f (U.length:Int) (V.length:Int) M':=by
  intro k
  induction k with
  | zero=>intro A' U V B' M' h1 h2 h3;omega
  | succ k ih =>
   intro A' U V B' M' hU hV hk hm hb' hf hH
   have pU:=List.length_pos_iff.2 hU
   have pV:=List.length_pos_iff.2 hV
   have hb2:=hb'
   simp only [List.length_append] at hb2
   refine Eq.mpr (H.L1 ..) ?_
   unfold roC.L1.T aH
   rw [cB]
   split
   ·refine vU (f:=f) A' U [] V B' (by omega) hb' hH (by rw [em,aQ (by omega)];omega) (by rw [em];simp;omega) rfl fun M2 h2=>?_
    rw [List.nil_append,hf] at h2
    exact hR M2 h2
   ·rw [cR]
    split
    ·have hUU:U = U.take V.length ++ U.drop V.length:=(List.take_append_drop _ _).symm
     have l1:(U.take V.length).length = V.length:=by rw [List.length_take];omega
     have l2:(U.drop V.length).length = U.length - V.length:=List.length_drop
     generalize U.take V.length = U1 at hUU l1
     generalize U.drop V.length = U2 at hUU l2
     subst hUU
     rw [List.append_assoc] at hH hb'
     rw [List.length_append] at *
     refine vU (f:=f) A' U1 U2 V B' l1 (by simp only [List.length_append];omega) hH (by rw [em,aQ (by omega)];omega) (by rw [em];omega) (by omega) fun M2 h2=>?_
     have hlen:((A' ++ V) ++ (U2 ++ (U1 ++ B'))).length≤1000000:=by simp only [List.length_append];omega
     have:=ih (A' ++ V) U2 U1 B' M2 (List.length_pos_iff.1 (by omega)) (List.length_pos_iff.1 (by omega)) (by omega) (by rw [List.length_append];omega) hlen (by rw [←hf];simp) (by rw [List.append_assoc];exact h2)
     rw [aQ (by omega)]
     rw [show ((U1.length + U2.length:Nat):Int) - (V.length:Int) = ((U2.length:Nat):Int) from by omega,←l1]
     exact this
    ·have hVV:V = V.take (V.length - U.length) ++ V.drop (V.length - U.length):=(List.take_append_drop _ _).symm
     have l1:(V.take (V.length - U.length)).length = V.length - U.length:=by rw [List.length_take];omega
     have l2:(V.drop (V.length - U.length)).length = U.length:=by rw [List.length_drop];omega
     generalize V.take (V.length - U.length) = V1 at hVV l1
     generalize V.drop (V.length - U.length) = V2 at hVV l2
     subst hVV
     rw [List.append_assoc] at hH hb'
     rw [List.length_append] at *
     refine vU (f:=f) A' U V1 V2 B' (by omega) (by simp only [List.length_append];omega) hH (by rw [em,aQ (by omega)];omega) (by rw [em,aQ (n:=_ + _) (by omega),aQ (by omega)];omega) rfl fun M2 h2=>?_
     have hlen:(A' ++ (V2 ++ (V1 ++ (U ++ B')))).length≤1000000:=by simp only [List.length_append];omega
     have:=ih A' V2 V1 (U ++ B') M2 (List.length_pos_iff.1 (by omega)) (List.length_pos_iff.1 (by omega)) (by omega) (by omega) hlen (by rw [←hf];simp) h2
     rw [aQ (by omega)]
     rw [show ((V1.length + V2.length:Nat):Int) - (U.length:Int) = ((V1.length:Nat):Int) from by omega]
     rw [l2] at this
     exact this
 have pX:=List.length_pos_iff.2 hX
 have pY:=List.length_pos_iff.2 hY
 refine ⟨X.length + Y.length + 1,?_⟩
 have:=key (X.length + Y.length + 1) A X Y B M hX hY (by omega) rfl (by simp only [List.length_append];omega) rfl h
 rw [ea,eb,aQ (by omega),aQ (by omega)]
 rw [show m - (A.length:Int) = (X.length:Int) from by omega,show ((A.length + X.length + Y.length:Nat):Int) - m = (Y.length:Int) from by omega]
 exact this
theorem p4 {s:SV} {Q:cI} (A X B:List bR) {a b:Int} (hb:(A ++ (X ++ B)).length≤1000000) (h:aA w0 F M (star (Es s (A ++ (X ++ B))) Q)) (ea:a = (A.length:Int)) (eb:b = ((A.length + X.length:Nat):Int))
  (hR:∀ M' Z,tF Z→Z.Perm X→aA w0 F M' (star (Es s (A ++ (Z ++ B))) Q)→R (.tuple #[]) M'):Go.Proofs.YtodobkbnmjgkdaaGreat.HL.C PP w0 Id.tY #[SV.v s,.int .i64 a,.int .i64 b,.func (.func Id.bQ) #[] #[]] R M:=by
 apply tY.go _ s a b (Id.bQ,#[])
 intro aB H
 unfold tY.T aH
 simp only [List.length_append] at hb
 subst ea eb
 have key:∀ (k:Nat) (Z1 X2:List bR) (M':Mem),X2.length < k→tF Z1→(Z1 ++ X2).Perm X→aA w0 F M' (star (Es s (A ++ (Z1 ++ (X2 ++ B)))) Q) →
   tY.L1 aB k s (A.length:Int) ((A.length + X.length:Nat):Int) (Id.bQ,#[]) ((A.length + Z1.length:Nat):Int) M':=by
  intro k
  induction k with
  | zero=>intro Z1 X2 M' h1;omega
  | succ k ih =>
   intro Z1 X2 M' hk hsr hp hH
   have hlen:=hp.length_eq
   rw [List.length_append] at hlen
   refine Eq.mpr (H.L1 ..) ?_
   unfold tY.L1.T aH
   rw [cR]
   split
   ·match X2,hk,hp,hH,hlen with
    | [],_,_,_,hlen=>simp at hlen;omega
    | x::X2,hk,hp,hH,hlen =>
     simp only [List.length_cons] at hk hlen
     have key2:∀ (k':Nat) (P S:List bR) (M2:Mem),P.length < k'→Z1 = P ++ S→(∀ y∈S,Lt x y)→aA w0 F M2 (star (Es s (A ++ (P ++ x::(S ++ (X2 ++ B))))) Q) →
       tY.L2 aB k k' s (A.length:Int) ((A.length + X.length:Nat):Int) (Id.bQ,#[]) ((A.length + Z1.length:Nat):Int) ((A.length + P.length:Nat):Int) M2:=by
      intro k'
      induction k' with
      | zero=>intro P S M2 h1;omega
      | succ k' ih2 =>
       intro P S M2 hk' hZ hS h2
       have hzl:=congrArg List.length hZ
       rw [List.length_append] at hzl
       have fin:(∀ y∈P,¬ Lt x y)→∀ M3,aA w0 F M3 (star (Es s (A ++ (P ++ x::(S ++ (X2 ++ B))))) Q)→tY.L1 aB k s (A.length:Int) ((A.length + X.length:Nat):Int) (Id.bQ,#[]) (lN (((A.length + Z1.length:Nat):Int) + 1)) M3:=by
        intro hP M3 h3
        rw [bX (by omega)]
        have:=ih (P ++ x::S) X2 M3 (by omega) (aC8 (hZ▸hsr) (fun y hy=>(hS y hy).aH8) hP) (by
         refine List.Perm.trans ?_ hp
         rw [hZ,List.append_assoc,List.append_assoc,List.cons_append]
         exact (List.perm_middle.symm).append_left P) (by
         rw [show A ++ ((P ++ x::S) ++ (X2 ++ B)) = A ++ (P ++ x::(S ++ (X2 ++ B))) from by simp];exact h3)
        rw [show A.length + (P ++ x::S).length = A.length + Z1.length + 1 from by rw [List.length_append,List.length_cons];omega] at this
        exact this
       refine Eq.mpr (H.L2 ..) ?_
       unfold tY.L2.T aH
       rw [cR]
       split
       ·rcases List.eq_nil_or_concat P with rfl | ⟨P',y,hPe⟩
        ·simp at *
        ·rw [List.concat_eq_append] at hPe
         subst hPe
         rw [List.length_append,List.length_singleton] at hk' hzl
         have el:A ++ ((P' ++ [y]) ++ x::(S ++ (X2 ++ B))) = (A ++ P') ++ y::([] ++ x::(S ++ (X2 ++ B))):=by simp
         have e0:((A.length + (P' ++ [y]).length:Nat):Int) = (((A ++ P').length + 1 + ([]:List bR).length:Nat):Int):=by simp only [List.length_append,List.length_singleton,List.length_nil];omega
         have e1:lN (((A.length + (P' ++ [y]).length:Nat):Int) - 1) = (((A ++ P').length:Nat):Int):=by
          rw [aQ (by simp only [List.length_append,List.length_singleton];omega)];simp only [List.length_append,List.length_singleton];omega
         have h2':=h2
         rw [el] at h2'
         refine nJ h2'.nJ (Mem.le_refl _) _ e0 wR ?_
         refine nJ h2'.nJ (Mem.le_refl _) _ e1 wT ?_
         show Go.Proofs.YtodobkbnmjgkdaaGreat.HL.C PP w0 Id.bQ #[.agg #[.int .i64 x.1,.int .i64 x.2],.agg #[.int .i64 y.1,.int .i64 y.2]] _ _
         refine sE fun M3 l3=>?_
         rw [aL,cR]
         simp only [zP]
         split
         ·rename_i hlt
          refine Eq.mpr (H.J3 ..) ?_
          unfold tY.J3.T aH
          refine aGh (h2'.le l3) (l':=(A ++ P') ++ x::([] ++ y::(S ++ (X2 ++ B)))) _ _ e0 e1 wR wT aIF fun M4 h4=>?_
          rw [e1]
          have:=ih2 P' (y::S) M4 (by omega) (by rw [hZ];simp) (fun z hz=>?_) (by
           rw [show A ++ (P' ++ x::(y::S ++ (X2 ++ B))) = (A ++ P') ++ x::([] ++ y::(S ++ (X2 ++ B))) from by simp];exact h4)
          ·rw [List.length_append];exact this
          ·rcases List.mem_cons.1 hz with rfl | hz
           ·exact hlt
           ·exact hS z hz
         ·rename_i hlt
          refine fin (fun z hz=>?_) M3 (h2.le l3)
          rcases List.mem_append.1 hz with hz | hz
          ·have:¬ Lt y z:=by
            rw [hZ] at hsr
            have q:=(List.pairwise_append.1 (List.pairwise_append.1 hsr).1).2.2 z hz y (List.mem_singleton.2 rfl)
            exact q
           exact nLt.tr this hlt
          ·rw [List.mem_singleton.1 hz];exact hlt
       ·have hP:P = []:=List.length_eq_zero_iff.1 (by omega)
        subst hP
        exact fin (fun y hy=>by cases hy) M2 h2
     exact ⟨Z1.length + 1,key2 (Z1.length + 1) Z1 [] M' (by omega) (by simp) (fun y hy=>by cases hy) hH⟩
   ·have hX2:X2 = []:=List.length_eq_zero_iff.1 (by omega)
    subst hX2
    rw [List.append_nil] at hp
    exact hR M' Z1 hsr hp hH
 cases X with
 | nil =>
  refine ⟨1,?_⟩
  refine Eq.mpr (H.L1 ..) ?_
  unfold tY.L1.T aH
  rw [bX (by omega),cR,if_neg (by simp only [List.length_nil];omega)]
  exact hR M [] tF.nil (List.Perm.refl _) h
 | cons x X =>
  have:=key (X.length + 1) [x] X M (by omega) (List.pairwise_singleton _ _) (List.Perm.refl _) h
  rw [bX (by simp at hb;omega)]
  exact ⟨X.length + 1,this⟩
end
end HL
namespace HL
theorem aAP {i j:Nat} (h:i + j < 4611686018427387904):lN (Int.fdiv (u64 (lN ((i:Int) + (j:Int)))) (2 ^ (min (1:Int).toNat (IntKind.bits .u64)))) = (((i + j) / 2:Nat):Int):=by
 rw [aQ (n:=(i:Int) + (j:Int)) (by omega)]
 have e1:u64 ((i:Int) + (j:Int)) = (i:Int) + (j:Int):=by unfold u64 IntKind.wrap;simp [IntKind.bits,IntKind.signed];omega
 have e2:((2:Int) ^ (min (1:Int).toNat (IntKind.bits .u64))) = 2:=by decide
 rw [e1,e2,Int.fdiv_eq_ediv_of_nonneg _ (by decide),aQ (by omega)]
 omega
theorem tH {l:List bR} (h:tF l) {i j:Nat} {x y:bR} (hx:l[i]? = some x) (hy:l[j]? = some y) (hij:i≤j):¬ Lt y x:=by
 obtain ⟨h1,rfl⟩:=List.getElem?_eq_some_iff.1 hx
 obtain ⟨h2,rfl⟩:=List.getElem?_eq_some_iff.1 hy
 rcases Nat.lt_or_eq_of_le hij with h3 | rfl
 ·exact List.pairwise_iff_getElem.1 h i j h1 h2 h3
 ·exact Lt.irr
theorem qX {l:List bR} {n:Nat} {x:bR} (h:x∈l.take n):∃ i,i < n∧l[i]? = some x:=by
 obtain ⟨i,hi⟩:=List.getElem?_of_mem h
 have hn:i < n:=by
  have:=(List.getElem?_eq_some_iff.1 hi).1
  rw [List.length_take] at this;omega
 exact ⟨i,hn,by rw [List.getElem?_take_of_lt hn] at hi;exact hi⟩
theorem qZ {l:List bR} {n:Nat} {x:bR} (h:x∈l.drop n):∃ i,n≤i∧l[i]? = some x:=by
 obtain ⟨i,hi⟩:=List.getElem?_of_mem h
 rw [List.getElem?_drop] at hi
 exact ⟨n + i,by omega,hi⟩
theorem aH2 {X1 X2 Y1 Y2 Z1 Z2:List bR} (hX:tF (X1 ++ X2)) (hY:tF (Y1 ++ Y2)) (c1:∀ x∈X1,∀ y∈Y2,¬ Lt y x) (c2:∀ x∈X2,∀ y∈Y1,¬ Lt x y) (h1:tF Z1) (h2:tF Z2) (p1:Z1.Perm (X1 ++ Y1)) (p2:Z2.Perm (X2 ++ Y2)) :
  tF (Z1 ++ Z2)∧(Z1 ++ Z2).Perm ((X1 ++ X2) ++ (Y1 ++ Y2)):=by
 refine ⟨List.pairwise_append.2 ⟨h1,h2,fun a ha b hb=>?_⟩,?_⟩
 ·have ha':=p1.mem_iff.1 ha
  have hb':=p2.mem_iff.1 hb
  rcases List.mem_append.1 ha' with ha' | ha' <;> rcases List.mem_append.1 hb' with hb' | hb'
  ·exact (List.pairwise_append.1 hX).2.2 a ha' b hb'
  ·exact c1 a ha' b hb'
  ·exact c2 b hb' a ha'
  ·exact (List.pairwise_append.1 hY).2.2 a ha' b hb'
 ·refine (p1.append p2).trans ?_
  have e1:(X1 ++ Y1) ++ (X2 ++ Y2) = X1 ++ ((Y1 ++ X2) ++ Y2):=by simp
  have e2:(X1 ++ X2) ++ (Y1 ++ Y2) = X1 ++ ((X2 ++ Y1) ++ Y2):=by simp
  rw [e1,e2]
  exact ((List.perm_append_comm).append_right Y2).append_left X1
section
variable {w0:World}
abbrev yJ:FuncId × Array Value:=(Id.bQ,#[])
theorem aGX {F M:Mem} {R:VP} {s:SV} {Q:cI} (A Y B:List bR) {x:bR} {aB:eA} (H:jY.Is (aJ PP w0) aB R) (hsr:tF Y) (hb:(A ++ (x::(Y ++ B))).length≤1000000) (h:aA w0 F M (star (Es s (A ++ (x::(Y ++ B)))) Q))
  (hR:∀ M' Z,tF Z→Z.Perm (x::Y)→aA w0 F M' (star (Es s (A ++ (Z ++ B))) Q)→R (.tuple #[]) M'):∃ k,jY.L1 aB k s (A.length:Int) yJ ((A.length + 1:Nat):Int) ((A.length + 1 + Y.length:Nat):Int) M:=by
 simp only [List.length_append,List.length_cons] at hb
 have key4:∀ (k:Nat) (Y1 Y2 Y3:List bR) (M':Mem),Y2.length < k→Y = Y1 ++ (Y2 ++ Y3)→(∀ y∈Y1,Lt y x)→(∀ y∈Y2,Lt y x)→(∀ y∈Y3,¬ Lt y x)→aA w0 F M' (star (Es s (A ++ (Y1 ++ x::(Y2 ++ (Y3 ++ B))))) Q) →
   jY.L4 aB k s ((A.length + 1 + Y1.length + Y2.length:Nat):Int) ((A.length + Y1.length:Nat):Int) M':=by
  intro k
  induction k with
  | zero=>intro Y1 Y2 Y3 M' h1;omega
  | succ k ih =>
   intro Y1 Y2 Y3 M' hk hY h1 h2 h3 hH
   have hl:=congrArg List.length hY
   simp only [List.length_append] at hl
   refine Eq.mpr (H.L4 ..) ?_
   unfold jY.L4.T aH
   rw [aQ (n:=((A.length + 1 + Y1.length + Y2.length:Nat):Int) - 1) (by omega),cR]
   split
   ·match Y2,hY,hk,h2,hH,hl with
    | [],_,_,_,_,_=>simp at *;omega
    | y::Y2,hY,hk,h2,hH,hl =>
     simp only [List.length_cons] at hk hl
     have el:A ++ (Y1 ++ x::(y::Y2 ++ (Y3 ++ B))) = (A ++ Y1) ++ x::([] ++ y::(Y2 ++ (Y3 ++ B))):=by simp
     rw [el] at hH
     have e0:((A.length + Y1.length:Nat):Int) = (((A ++ Y1).length:Nat):Int):=by rw [List.length_append]
     have e1:lN (((A.length + Y1.length:Nat):Int) + 1) = (((A ++ Y1).length + 1 + ([]:List bR).length:Nat):Int):=by
      rw [aQ (by omega),List.length_append,List.length_nil];omega
     refine aGh hH (l':=(A ++ Y1) ++ y::([] ++ x::(Y2 ++ (Y3 ++ B)))) _ _ e0 e1 wT wR aEx fun M4 h4=>?_
     rw [e1]
     have:=ih (Y1 ++ [y]) Y2 Y3 M4 (by omega) (by rw [hY];simp) (fun z hz=>by
      rcases List.mem_append.1 hz with hz | hz
      ·exact h1 z hz
      ·rw [List.mem_singleton.1 hz];exact h2 y List.mem_cons_self) (fun z hz=>h2 z (List.mem_cons_of_mem _ hz)) h3 (by
      rw [show A ++ ((Y1 ++ [y]) ++ x::(Y2 ++ (Y3 ++ B))) = (A ++ Y1) ++ y::([] ++ x::(Y2 ++ (Y3 ++ B))) from by simp];exact h4)
     rw [show A.length + 1 + (Y1 ++ [y]).length + Y2.length = A.length + 1 + Y1.length + (y::Y2).length from by simp only [List.length_append,List.length_cons,List.length_nil];omega,
      show A.length + (Y1 ++ [y]).length = (A ++ Y1).length + 1 + ([]:List bR).length from by simp only [List.length_append,List.length_cons,List.length_nil];omega] at this
     exact this
   ·have hY2:Y2 = []:=List.length_eq_zero_iff.1 (by omega)
    subst hY2
    rw [List.nil_append] at hY hH
    refine hR M' (Y1 ++ x::Y3) (aC8 (hY▸hsr) h3 (fun y hy=>(h1 y hy).aH8)) (by rw [hY];exact List.perm_middle) ?_
    rw [show A ++ ((Y1 ++ x::Y3) ++ B) = A ++ (Y1 ++ x::(Y3 ++ B)) from by simp];exact hH
 have key1:∀ (k i j:Nat) (M':Mem),i≤j→j≤Y.length→j < i + k→(∀ q y,q < i→Y[q]? = some y→Lt y x)→(∀ q y,j≤q→Y[q]? = some y→¬ Lt y x)→aA w0 F M' (star (Es s (A ++ (x::(Y ++ B)))) Q) →
   jY.L1 aB k s (A.length:Int) yJ ((A.length + 1 + i:Nat):Int) ((A.length + 1 + j:Nat):Int) M':=by
  intro k
  induction k with
  | zero=>intro i j M' h1 h2 h3;omega
  | succ k ih =>
   intro i j M' hij hj hk hlo hhi hH
   refine Eq.mpr (H.L1 ..) ?_
   unfold jY.L1.T aH
   rw [cR]
   split
   ·refine ⟨by decide,?_⟩
    rw [aAP (by omega)]
    have hq:(A.length + 1 + i + (A.length + 1 + j)) / 2 = A.length + 1 + (i + j) / 2:=by omega
    rw [hq]
    have hlt:(i + j) / 2 < Y.length:=by omega
    have ey:=List.getElem?_eq_getElem hlt
    generalize Y[(i + j) / 2] = y at ey
    refine nJ hH.nJ (Mem.le_refl _) (A.length + 1 + (i + j) / 2) rfl (x:=y) (by
     rw [List.getElem?_append_right (by omega),show A.length + 1 + (i + j) / 2 - A.length = (i + j) / 2 + 1 from by omega,List.getElem?_cons_succ,List.getElem?_append_left hlt];exact ey) ?_
    refine nJ hH.nJ (Mem.le_refl _) A.length rfl (x:=x) (by simp) ?_
    show C PP w0 Id.bQ #[.agg #[.int .i64 y.1,.int .i64 y.2],.agg #[.int .i64 x.1,.int .i64 x.2]] _ _
    refine sE fun M3 l3=>?_
    rw [aL,cR]
    simp only [zP]
    split
    ·rename_i hc
     rw [bX (by omega)]
     exact ih ((i + j) / 2 + 1) j M3 (by omega) hj (by omega) (fun q z hq hz=>nLt.lt (tH hsr hz ey (by omega)) hc) hhi (hH.le l3)
    ·rename_i hc
     exact ih i ((i + j) / 2) M3 (by omega) (by omega) (by omega) hlo (fun q z hq hz=>nLt.tr hc (tH hsr ey hz hq)) (hH.le l3)
   ·have hij':i = j:=by omega
    subst hij'
    refine ⟨i + 1,?_⟩
    have hYe:Y = Y.take i ++ Y.drop i:=(List.take_append_drop _ _).symm
    have hlt:(Y.take i).length = i:=by rw [List.length_take];omega
    have:=key4 (i + 1) [] (Y.take i) (Y.drop i) M' (by omega) (by rw [List.nil_append];exact hYe) (fun y hy=>by cases hy) (fun y hy=>by
     obtain ⟨q,hq,hz⟩:=qX hy
     exact hlo q y hq hz) (fun y hy=>by
     obtain ⟨q,hq,hz⟩:=qZ hy
     exact hhi q y hq hz) (by
     rw [show A ++ ([] ++ x::(Y.take i ++ (Y.drop i ++ B))) = A ++ (x::(Y ++ B)) from by rw [List.nil_append,←List.append_assoc (Y.take i),List.take_append_drop]];exact hH)
    rw [hlt] at this
    exact this
 exact ⟨Y.length + 1,key1 (Y.length + 1) 0 Y.length M (by omega) (by omega) (by omega) (fun q y hq=>by omega) (fun q y hq hy=>by have:=(List.getElem?_eq_some_iff.1 hy).1;omega) h⟩
theorem aFl {F M:Mem} {R:VP} {s:SV} {Q:cI} (A X B:List bR) {y:bR} {aB:eA} (H:jY.Is (aJ PP w0) aB R) (hsr:tF X) (hb:(A ++ (X ++ (y::B))).length≤1000000) (h:aA w0 F M (star (Es s (A ++ (X ++ (y::B)))) Q))
  (hR:∀ M' Z,tF Z→Z.Perm (y::X)→aA w0 F M' (star (Es s (A ++ (Z ++ B))) Q)→R (.tuple #[]) M'):∃ k,jY.L2 aB k s ((A.length + X.length:Nat):Int) yJ (A.length:Int) ((A.length + X.length:Nat):Int) M:=by
 simp only [List.length_append,List.length_cons] at hb
 have key5:∀ (k:Nat) (X1 X2 X3:List bR) (M':Mem),X2.length < k→X = X1 ++ (X2 ++ X3)→(∀ x∈X1,¬ Lt y x)→(∀ x∈X2,Lt y x)→(∀ x∈X3,Lt y x)→aA w0 F M' (star (Es s (A ++ (X1 ++ (X2 ++ y::(X3 ++ B))))) Q) →
   jY.L5 aB k s ((A.length + X1.length:Nat):Int) ((A.length + X1.length + X2.length:Nat):Int) M':=by
  intro k
  induction k with
  | zero=>intro X1 X2 X3 M' h1;omega
  | succ k ih =>
   intro X1 X2 X3 M' hk hX h1 h2 h3 hH
   have hl:=congrArg List.length hX
   simp only [List.length_append] at hl
   refine Eq.mpr (H.L5 ..) ?_
   unfold jY.L5.T aH
   rw [cR]
   split
   ·rcases List.eq_nil_or_concat X2 with rfl | ⟨X2',x,hPe⟩
    ·simp at *
    ·rw [List.concat_eq_append] at hPe
     subst hPe
     simp only [List.length_append,List.length_cons,List.length_nil] at hk hl
     have el:A ++ (X1 ++ ((X2' ++ [x]) ++ y::(X3 ++ B))) = (A ++ (X1 ++ X2')) ++ x::([] ++ y::(X3 ++ B)):=by simp
     rw [el] at hH
     have e0:((A.length + X1.length + (X2' ++ [x]).length:Nat):Int) = (((A ++ (X1 ++ X2')).length + 1 + ([]:List bR).length:Nat):Int):=by simp only [List.length_append,List.length_cons,List.length_nil];omega
     have e1:lN (((A.length + X1.length + (X2' ++ [x]).length:Nat):Int) - 1) = (((A ++ (X1 ++ X2')).length:Nat):Int):=by
      rw [aQ (by simp only [List.length_append,List.length_cons,List.length_nil];omega)];simp only [List.length_append,List.length_cons,List.length_nil];omega
     refine aGh hH (l':=(A ++ (X1 ++ X2')) ++ y::([] ++ x::(X3 ++ B))) _ _ e0 e1 wR wT aIF fun M4 h4=>?_
     rw [e1]
     have:=ih X1 X2' (x::X3) M4 (by omega) (by rw [hX];simp) h1 (fun z hz=>h2 z (List.mem_append_left _ hz)) (fun z hz=>by
      rcases List.mem_cons.1 hz with rfl | hz
      ·exact h2 z (List.mem_append_right _ (List.mem_singleton.2 rfl))
      ·exact h3 z hz) (by
      rw [show A ++ (X1 ++ (X2' ++ y::(x::X3 ++ B))) = (A ++ (X1 ++ X2')) ++ y::([] ++ x::(X3 ++ B)) from by simp];exact h4)
     rw [show A.length + X1.length + X2'.length = (A ++ (X1 ++ X2')).length from by simp only [List.length_append];omega] at this
     exact this
   ·have hX2:X2 = []:=List.length_eq_zero_iff.1 (by omega)
    subst hX2
    rw [List.nil_append] at hX hH
    refine hR M' (X1 ++ y::X3) (aC8 (hX▸hsr) (fun x hx=>(h3 x hx).aH8) h1) (by rw [hX];exact List.perm_middle) ?_
    rw [show A ++ ((X1 ++ y::X3) ++ B) = A ++ (X1 ++ y::(X3 ++ B)) from by simp];exact hH
 have key2:∀ (k i j:Nat) (M':Mem),i≤j→j≤X.length→j < i + k→(∀ q x,q < i→X[q]? = some x→¬ Lt y x)→(∀ q x,j≤q→X[q]? = some x→Lt y x)→aA w0 F M' (star (Es s (A ++ (X ++ (y::B)))) Q) →
   jY.L2 aB k s ((A.length + X.length:Nat):Int) yJ ((A.length + i:Nat):Int) ((A.length + j:Nat):Int) M':=by
  intro k
  induction k with
  | zero=>intro i j M' h1 h2 h3;omega
  | succ k ih =>
   intro i j M' hij hj hk hlo hhi hH
   refine Eq.mpr (H.L2 ..) ?_
   unfold jY.L2.T aH
   rw [cR]
   split
   ·refine ⟨by decide,?_⟩
    rw [aAP (by omega)]
    have hq:(A.length + i + (A.length + j)) / 2 = A.length + (i + j) / 2:=by omega
    rw [hq]
    have hlt:(i + j) / 2 < X.length:=by omega
    have ex:=List.getElem?_eq_getElem hlt
    generalize X[(i + j) / 2] = x at ex
    refine nJ hH.nJ (Mem.le_refl _) (A.length + X.length) rfl (x:=y) (by
     rw [List.getElem?_append_right (by omega),List.getElem?_append_right (by omega),show A.length + X.length - A.length - X.length = 0 from by omega];rfl) ?_
    refine nJ hH.nJ (Mem.le_refl _) (A.length + (i + j) / 2) rfl (x:=x) (by
     rw [List.getElem?_append_right (by omega),show A.length + (i + j) / 2 - A.length = (i + j) / 2 from by omega,List.getElem?_append_left hlt];exact ex) ?_
    show C PP w0 Id.bQ #[.agg #[.int .i64 y.1,.int .i64 y.2],.agg #[.int .i64 x.1,.int .i64 x.2]] _ _
    refine sE fun M3 l3=>?_
    rw [aL,tN,cR]
    simp only [zP]
    split
    ·rename_i hc
     exact ih i ((i + j) / 2) M3 (by omega) (by omega) (by omega) hlo (fun q z hq hz=>by
      have:=tH hsr ex hz hq
      apply Classical.byContradiction
      intro hn
      exact nLt.tr this hn hc) (hH.le l3)
    ·rename_i hc
     rw [bX (by omega)]
     exact ih ((i + j) / 2 + 1) j M3 (by omega) hj (by omega) (fun q z hq hz=>nLt.tr (tH hsr hz ex (by omega)) hc) hhi (hH.le l3)
   ·have hij':i = j:=by omega
    subst hij'
    have hXe:X = X.take i ++ X.drop i:=(List.take_append_drop _ _).symm
    have hlt:(X.take i).length = i:=by rw [List.length_take];omega
    have hlt2:(X.drop i).length = X.length - i:=List.length_drop
    refine ⟨X.length + 1,?_⟩
    have:=key5 (X.length + 1) (X.take i) (X.drop i) [] M' (by omega) (by rw [List.append_nil];exact hXe) (fun x hx=>by
     obtain ⟨q,hq,hz⟩:=qX hx
     exact hlo q x hq hz) (fun x hx=>by
     obtain ⟨q,hq,hz⟩:=qZ hx
     exact hhi q x hq hz) (fun x hx=>by cases hx) (by
     rw [show A ++ (X.take i ++ (X.drop i ++ y::([] ++ B))) = A ++ (X ++ (y::B)) from by rw [List.nil_append,←List.append_assoc (X.take i),List.take_append_drop]];exact hH)
    rw [hlt,hlt2,show A.length + i + (X.length - i) = A.length + X.length from by omega] at this
    exact this
 exact ⟨X.length + 1,key2 (X.length + 1) 0 X.length M (by omega) (by omega) (by omega) (fun q x hq=>by omega) (fun q x hq hx=>by have:=(List.getElem?_eq_some_iff.1 hx).1;omega) h⟩
end
end HL
namespace HL
section
variable {w0:World}
set_option maxHeartbeats 4000000 in
theorem w8:∀ (n:Nat) {F M:Mem} {R:VP} {s:SV} {Q:cI} (A X Y B:List bR) {a m b:Int},X.length + Y.length≤n→X≠[]→Y≠[]→tF X→tF Y→(A ++ (X ++ (Y ++ B))).length≤1000000→aA w0 F M (star (Es s (A ++ (X ++ (Y ++ B)))) Q) →
  a = (A.length:Int)→m = ((A.length + X.length:Nat):Int)→b = ((A.length + X.length + Y.length:Nat):Int)→(∀ M' Z,tF Z→Z.Perm (X ++ Y)→aA w0 F M' (star (Es s (A ++ (Z ++ B))) Q)→R (.tuple #[]) M') →
  C PP w0 Id.jY #[SV.v s,.int .i64 a,.int .i64 m,.int .i64 b,.func (.func Id.bQ) #[] #[]] R M:=by
 intro n
 induction n with
 | zero =>
  intro F M R s Q A X Y B a m b hn hX
  have:=List.length_pos_iff.2 hX
  omega
 | succ n ih =>
  intro F M R s Q A X Y B a m b hn hX hY sX sY hb h ea em eb hR
  have pX:=List.length_pos_iff.2 hX
  have pY:=List.length_pos_iff.2 hY
  have hb2:=hb
  simp only [List.length_append] at hb2
  apply jY.go _ s a m b yJ
  intro aB H
  unfold jY.T aH
  subst ea em eb
  rw [aQ (n:=((A.length + X.length:Nat):Int) - (A.length:Int)) (by omega),fJ]
  split
  ·have hX1:X.length = 1:=by omega
   match X,hX1 with
   | [x],_ =>
    exact aGX A Y B H sY hb h fun M' Z h1 h2 h3=>hR M' Z h1 h2 h3
  ·rw [aQ (n:=((A.length + X.length + Y.length:Nat):Int) - ((A.length + X.length:Nat):Int)) (by omega),fJ]
   split
   ·have hY1:Y.length = 1:=by omega
    match Y,hY1 with
    | [y],_ =>
     exact aFl A X B H sX hb h fun M' Z h1 h2 h3=>hR M' Z h1 (h2.trans (List.perm_append_comm (l₁:=[y]))) h3
   ·refine ⟨by decide,?_⟩
    rw [aAP (by omega)]
    have hX2:2≤X.length:=by omega
    have hY2:2≤Y.length:=by omega
    obtain ⟨mid,hmid⟩:∃ mid,mid = (A.length + (A.length + X.length + Y.length)) / 2:=⟨_,rfl⟩
    rw [←hmid]
    have e1:lN ((mid:Int) + ((A.length + X.length:Nat):Int)) = ((mid + (A.length + X.length):Nat):Int):=by rw [aQ (by omega)];omega
    rw [e1]
    have keyJ3:∀ (lo hi:Nat),lo≤hi→(lo = A.length∧hi = A.length + X.length∧A.length + X.length≤mid∨lo + (A.length + X.length + Y.length) = mid + (A.length + X.length)∧hi = mid∧mid < A.length + X.length) →
      jY.J3 aB s (A.length:Int) ((A.length + X.length:Nat):Int) ((A.length + X.length + Y.length:Nat):Int) yJ (mid:Int) ((mid + (A.length + X.length):Nat):Int) (lo:Int) (hi:Int) M:=by
     intro lo hi hlh hc
     refine Eq.mpr (H.J3 ..) ?_
     unfold jY.J3.T aH
     rw [aQ (n:=((mid + (A.length + X.length):Nat):Int) - 1) (by omega)]
     have key:∀ (k st r:Nat) (M':Mem),lo≤st→st≤r→r≤hi→r < st + k→(st = lo∨∃ x y,X[st - 1 - A.length]? = some x∧Y[mid - st]? = some y∧¬ Lt y x)→(r = hi∨∃ x y,X[r - A.length]? = some x∧Y[mid - 1 - r]? = some y∧r < mid∧Lt y x) →
       aA w0 F M' (star (Es s (A ++ (X ++ (Y ++ B)))) Q)→jY.L6 aB k s (A.length:Int) ((A.length + X.length:Nat):Int) ((A.length + X.length + Y.length:Nat):Int) yJ (mid:Int) ((mid + (A.length + X.length):Nat):Int) (st:Int) (r:Int) (((mid + (A.length + X.length):Nat):Int) - 1) M':=by
      intro k
      induction k with
      | zero=>intro st r M' h1 h2 h3 h4;omega
      | succ k ih2 =>
       intro st r M' h1 h2 h3 h4 hlo hhi hH
       refine Eq.mpr (H.L6 ..) ?_
       unfold jY.L6.T aH
       rw [cR]
       split
       ·refine ⟨by decide,?_⟩
        rw [aAP (by omega)]
        obtain ⟨c,hcc⟩:∃ c,c = (st + r) / 2:=⟨_,rfl⟩
        rw [←hcc]
        have hcX:c - A.length < X.length:=by omega
        have hcY:mid - 1 - c < Y.length:=by omega
        have ex:=List.getElem?_eq_getElem hcX
        have ey:=List.getElem?_eq_getElem hcY
        generalize X[c - A.length] = x at ex
        generalize Y[mid - 1 - c] = y at ey
        refine nJ hH.nJ (Mem.le_refl _) (mid + (A.length + X.length) - 1 - c) (by rw [aQ (by omega)];omega) (x:=y) (by
         rw [List.getElem?_append_right (by omega),List.getElem?_append_right (by omega),List.getElem?_append_left (by omega),←ey];congr 1;omega) ?_
        refine nJ hH.nJ (Mem.le_refl _) c rfl (x:=x) (by
         rw [List.getElem?_append_right (by omega),List.getElem?_append_left (by omega)];exact ex) ?_
        show C PP w0 Id.bQ #[.agg #[.int .i64 y.1,.int .i64 y.2],.agg #[.int .i64 x.1,.int .i64 x.2]] _ _
        refine sE fun M3 l3=>?_
        rw [aL,tN,cR]
        simp only [zP]
        split
        ·rename_i hlt
         exact ih2 st c M3 h1 (by omega) (by omega) (by omega) hlo (.inr ⟨x,y,ex,ey,by omega,hlt⟩) (hH.le l3)
        ·rename_i hlt
         rw [bX (by omega)]
         exact ih2 (c + 1) r M3 (by omega) (by omega) h3 (by omega) (.inr ⟨x,y,by rw [show c + 1 - 1 - A.length = c - A.length from by omega];exact ex,by rw [show mid - (c + 1) = mid - 1 - c from by omega];exact ey,hlt⟩) hhi (hH.le l3)
       ·have hsr:st = r:=by omega
        subst hsr
        have e2:lN (((mid + (A.length + X.length):Nat):Int) - (st:Int)) = ((mid + (A.length + X.length) - st:Nat):Int):=by rw [aQ (by omega)];omega
        rw [e2]
        have hXe:X = X.take (st - A.length) ++ X.drop (st - A.length):=(List.take_append_drop _ _).symm
        have hYe:Y = Y.take (mid - st) ++ Y.drop (mid - st):=(List.take_append_drop _ _).symm
        have lX1:(X.take (st - A.length)).length = st - A.length:=by rw [List.length_take];omega
        have lX2:(X.drop (st - A.length)).length = A.length + X.length - st:=by rw [List.length_drop];omega
        have lY1:(Y.take (mid - st)).length = mid - st:=by rw [List.length_take];omega
        have lY2:(Y.drop (mid - st)).length = Y.length - (mid - st):=List.length_drop
        have c1:∀ x∈X.take (st - A.length),∀ y∈Y.drop (mid - st),¬ Lt y x:=by
         intro x hx y hy
         obtain ⟨i,hi,hxi⟩:=qX hx
         obtain ⟨j,hj,hyj⟩:=qZ hy
         have hjl:=(List.getElem?_eq_some_iff.1 hyj).1
         rcases hlo with hlo | ⟨p,q,hp,hq,hpq⟩
         ·omega
         ·have q1:=tH sX hxi hp (by omega)
          have q2:=tH sY hq hyj hj
          exact nLt.tr (nLt.tr q1 hpq) q2
        have c2:∀ x∈X.drop (st - A.length),∀ y∈Y.take (mid - st),¬ Lt x y:=by
         intro x hx y hy
         obtain ⟨i,hi,hxi⟩:=qZ hx
         obtain ⟨j,hj,hyj⟩:=qX hy
         have hil:=(List.getElem?_eq_some_iff.1 hxi).1
         rcases hhi with hhi | ⟨p,q,hp,hq,hr,hpq⟩
         ·omega
         ·have q1:=tH sX hp hxi hi
          have q2:=tH sY hyj hq (by omega)
          exact nLt.tr (nLt.tr q2 hpq.aH8) q1
        generalize X.take (st - A.length) = X1 at hXe lX1 c1
        generalize X.drop (st - A.length) = X2 at hXe lX2 c2
        generalize Y.take (mid - st) = Y1 at hYe lY1 c2
        generalize Y.drop (mid - st) = Y2 at hYe lY2 c1
        have sX':=sX
        have sY':=sY
        rw [hXe] at sX'
        rw [hYe] at sY'
        have sX1:tF X1:=sX'.sub (List.sublist_append_left _ _)
        have sX2:tF X2:=sX'.sub (List.sublist_append_right _ _)
        have sY1:tF Y1:=sY'.sub (List.sublist_append_left _ _)
        have sY2:tF Y2:=sY'.sub (List.sublist_append_right _ _)
        have keyJ8:∀ (Z1:List bR) (M4:Mem),tF Z1→Z1.Perm (X1 ++ Y1)→aA w0 F M4 (star (Es s (A ++ (Z1 ++ (X2 ++ (Y2 ++ B))))) Q) →
          jY.J8 aB s ((A.length + X.length + Y.length:Nat):Int) yJ (mid:Int) ((mid + (A.length + X.length) - st:Nat):Int) M4:=by
         intro Z1 M4 hZ hp h9
         have hzl:=hp.length_eq
         rw [List.length_append] at hzl
         have fin:∀ (Z2:List bR) (M5:Mem),tF Z2→Z2.Perm (X2 ++ Y2)→aA w0 F M5 (star (Es s (A ++ (Z1 ++ (Z2 ++ B)))) Q)→R (.tuple #[]) M5:=by
          intro Z2 M5 hZ2 hp2 h10
          obtain ⟨f1,f2⟩:=aH2 sX' sY' c1 c2 hZ hZ2 hp hp2
          refine hR M5 (Z1 ++ Z2) f1 (by rw [hXe,hYe];exact f2) ?_
          rw [List.append_assoc Z1];exact h10
         have h9':X2 = []∨Y2 = []→R (.tuple #[]) M4:=fun hc=>by
          refine fin (X2 ++ Y2) M4 ?_ (List.Perm.refl _) (by rw [List.append_assoc X2];exact h9)
          rcases hc with rfl | rfl
          ·exact sY2
          ·rw [List.append_nil];exact sX2
         refine Eq.mpr (H.J8 ..) ?_
         unfold jY.J8.T aH
         rw [cR]
         split
         ·rw [cR]
          split
          ·refine ih (A ++ Z1) X2 Y2 B (by omega) (List.length_pos_iff.1 (by omega)) (List.length_pos_iff.1 (by omega)) sX2 sY2 (by simp only [List.length_append];omega) (by rw [List.append_assoc A];exact h9) (by rw [List.length_append];omega) (by rw [List.length_append];omega) (by rw [List.length_append];omega) fun M5 Z2 g1 g2 g3=>?_
           exact fin Z2 M5 g1 g2 (by rw [List.append_assoc A] at g3;exact g3)
          ·exact h9' (.inr (List.length_eq_zero_iff.1 (by omega)))
         ·exact h9' (.inl (List.length_eq_zero_iff.1 (by omega)))
        have keyJ7:∀ (M4:Mem),aA w0 F M4 (star (Es s (A ++ (X1 ++ (Y1 ++ (X2 ++ (Y2 ++ B)))))) Q) →
          jY.J7 aB s (A.length:Int) ((A.length + X.length + Y.length:Nat):Int) yJ (mid:Int) (st:Int) ((mid + (A.length + X.length) - st:Nat):Int) M4:=by
         intro M4 h9
         have h9':X1 = []∨Y1 = []→jY.J8 aB s ((A.length + X.length + Y.length:Nat):Int) yJ (mid:Int) ((mid + (A.length + X.length) - st:Nat):Int) M4:=fun hc=>by
          refine keyJ8 (X1 ++ Y1) M4 ?_ (List.Perm.refl _) (by rw [List.append_assoc X1];exact h9)
          rcases hc with rfl | rfl
          ·exact sY1
          ·rw [List.append_nil];exact sX1
         refine Eq.mpr (H.J7 ..) ?_
         unfold jY.J7.T aH
         rw [cR]
         split
         ·rw [cR]
          split
          ·refine ih A X1 Y1 (X2 ++ (Y2 ++ B)) (by omega) (List.length_pos_iff.1 (by omega)) (List.length_pos_iff.1 (by omega)) sX1 sY1 (by simp only [List.length_append];omega) h9 rfl (by omega) (by omega) fun M5 Z1 g1 g2 g3=>?_
           exact keyJ8 Z1 M5 g1 g2 g3
          ·exact h9' (.inr (List.length_eq_zero_iff.1 (by omega)))
         ·exact h9' (.inl (List.length_eq_zero_iff.1 (by omega)))
        have el:A ++ (X ++ (Y ++ B)) = (A ++ X1) ++ (X2 ++ (Y1 ++ (Y2 ++ B))):=by
         conv=>lhs;rw [hXe,hYe]
         simp
        rw [el] at hH
        rw [cR]
        split
        ·rw [cR]
         split
         ·refine aGY (f:=yJ) (A ++ X1) X2 Y1 (Y2 ++ B) (List.length_pos_iff.1 (by omega)) (List.length_pos_iff.1 (by omega)) (by simp only [List.length_append];omega) hH (by rw [List.length_append];omega) (by rw [List.length_append];omega) (by rw [List.length_append];omega) fun M4 h9=>?_
          exact keyJ7 M4 (by rw [List.append_assoc A] at h9;exact h9)
         ·have hy:Y1 = []:=List.length_eq_zero_iff.1 (by omega)
          subst hy
          exact keyJ7 M' (by rw [List.append_assoc A,List.nil_append] at hH;exact hH)
        ·have hx:X2 = []:=List.length_eq_zero_iff.1 (by omega)
         subst hx
         exact keyJ7 M' (by rw [List.append_assoc A,List.nil_append] at hH;rw [List.nil_append];exact hH)
     exact ⟨hi + 1 - lo,key (hi + 1 - lo) lo hi M (by omega) hlh (by omega) (by omega) (.inl rfl) (.inl rfl) h⟩
    rw [cR]
    split
    ·have e3:lN (((mid + (A.length + X.length):Nat):Int) - ((A.length + X.length + Y.length:Nat):Int)) = ((mid + (A.length + X.length) - (A.length + X.length + Y.length):Nat):Int):=by rw [aQ (by omega)];omega
     rw [e3]
     exact keyJ3 _ mid (by omega) (.inr ⟨by omega,rfl,by omega⟩)
    ·exact keyJ3 A.length (A.length + X.length) (by omega) (.inl ⟨rfl,rfl,by omega⟩)
theorem aKo {F M:Mem} {R:VP} {s:SV} {l:List bR} {Q:cI} (hQ:aA w0 F M Q) (hs:wK w0 M s l) (hb:l.length≤39) (h:∀ M' s' z,Mem.le M M'→aA w0 F M' (star (Es s' z) Q)→tF z→z.Perm l→R (SV.v s') M'):C PP w0 Id.gQ #[SV.v s] R M:=by
 apply gQ.go
 unfold gQ.T aH
 refine aCk hQ.self hs (by omega) fun M1 s1 h1=>?_
 rw [aM]
 apply bP.go _ s1 yJ
 unfold bP.T aH
 apply pQ.go _ s1 _ yJ
 intro aB H
 unfold pQ.T aH
 have hn:=h1.aIc
 have fin:∀ (z:List bR) (M2:Mem),tF z→z.Perm l→aA w0 M M2 (star (Es s1 z) emp)→R (SV.v s1) M2:=fun z M2 hz hp h2=>by
  obtain ⟨g1,g2⟩:=hQ.aEM h2
  exact h M2 s1 z g1 g2 hz hp
 have e20:lN (20 + 20) = 40:=aQ (by omega)
 have e22:lN (2 * 20) = 40:=aQ (by omega)
 by_cases hc:l.length < 20
 ·refine ⟨1,?_⟩
  refine Eq.mpr (H.L1 ..) ?_
  unfold pQ.L1.T aH
  rw [cR,if_neg (by omega)]
  refine p4 [] l [] (by simp;omega) (by rw [List.nil_append,List.append_nil];exact h1) rfl (by rw [hn];simp) fun M2 z hz hp h2=>?_
  refine ⟨1,?_⟩
  refine Eq.mpr (H.L2 ..) ?_
  unfold pQ.L2.T aH
  rw [cR,if_neg (by omega)]
  rw [List.nil_append,List.append_nil] at h2
  exact fin z M2 hz hp h2
 ·have hl:l = l.take 20 ++ l.drop 20:=(List.take_append_drop _ _).symm
  have l1:(l.take 20).length = 20:=by rw [List.length_take];omega
  have l2:(l.drop 20).length = l.length - 20:=List.length_drop
  generalize l.take 20 = X at hl l1
  generalize l.drop 20 = Y at hl l2
  refine ⟨2,?_⟩
  refine Eq.mpr (H.L1 ..) ?_
  unfold pQ.L1.T aH
  rw [cR,if_pos (by omega)]
  refine p4 [] X Y (by simp;omega) (by rw [List.nil_append,←hl];exact h1) rfl (by rw [l1];rfl) fun M2 zx hzx hpx h2=>?_
  have lx:=hpx.length_eq
  (rw [e20];refine Eq.mpr (H.L1 ..) ?_)
  unfold pQ.L1.T aH
  rw [cR,if_neg (by omega)]
  refine p4 zx Y [] (by simp;omega) (by rw [List.append_nil];exact h2) (by omega) (by omega) fun M3 zy hzy hpy h3=>?_
  have ly:=hpy.length_eq
  rw [List.append_nil] at h3
  refine ⟨2,?_⟩
  refine Eq.mpr (H.L2 ..) ?_
  unfold pQ.L2.T aH
  rw [cR]
  split
  ·refine ⟨1,?_⟩
   (rw [e22];refine Eq.mpr (H.L3 ..) ?_)
   unfold pQ.L3.T aH
   rw [cR,if_neg (by omega),cR,if_pos (by rw [aQ (by omega)];omega)]
   refine w8 (zx.length + zy.length) [] zx zy [] (Nat.le_refl _) (List.length_pos_iff.1 (by omega)) (List.length_pos_iff.1 (by omega)) hzx hzy (by simp;omega) (by rw [List.nil_append,List.append_nil];exact h3) rfl (by rw [aQ (by omega)];simp;omega) (by simp;omega) fun M4 z hz hp h4=>?_
   (rw [show lN (20 * 2) = 40 from aQ (by omega)];refine Eq.mpr (H.L2 ..) ?_)
   unfold pQ.L2.T aH
   rw [cR,if_neg (by omega)]
   rw [List.nil_append,List.append_nil] at h4
   exact fin z M4 hz (hp.trans (by rw [hl];exact hpx.append hpy)) h4
  ·have:zy = []:=List.length_eq_zero_iff.1 (by omega)
   subst this
   rw [List.append_nil] at h3
   have hY:Y = []:=List.length_eq_zero_iff.1 (by simp at ly;omega)
   subst hY
   rw [List.append_nil] at hl
   exact fin zx M3 hzx (hl▸hpx) h3
end
end HL
namespace HL
section
variable {w0:World}
theorem aHI {F M:Mem} {R:VP} {s:SV} {l:List bR} {Q:cI} (hQ:aA w0 F M Q) (hs:wK w0 M s l) (hb:l.length≤59) (h:∀ M' s' z,Mem.le M M'→aA w0 F M' (star (Es s' z) Q)→tF z→z.Perm l→R (SV.v s') M'):C PP w0 Id.gQ #[SV.v s] R M:=by
 by_cases h39:l.length≤39
 ·exact aKo hQ hs h39 h
 apply gQ.go
 unfold gQ.T aH
 refine aCk hQ.self hs (by omega) fun M1 s1 h1=>?_
 rw [aM]
 apply bP.go _ s1 yJ
 unfold bP.T aH
 apply pQ.go _ s1 _ yJ
 intro aB H
 unfold pQ.T aH
 have hn:=h1.aIc
 have fin:∀ (z:List bR) (M2:Mem),tF z→z.Perm l→aA w0 M M2 (star (Es s1 z) emp)→R (SV.v s1) M2:=fun z M2 hz hp h2=>by
  obtain ⟨g1,g2⟩:=hQ.aEM h2
  exact h M2 s1 z g1 g2 hz hp
 have e20:lN (20 + 20) = 40:=aQ (by omega)
 have e40:lN (40 + 20) = 60:=aQ (by omega)
 have e22:lN (2 * 20) = 40:=aQ (by omega)
 have hl:l = l.take 20 ++ ((l.drop 20).take 20 ++ (l.drop 20).drop 20):=by rw [List.take_append_drop,List.take_append_drop]
 have l1:(l.take 20).length = 20:=by rw [List.length_take];omega
 have l2:((l.drop 20).take 20).length = 20:=by rw [List.length_take,List.length_drop];omega
 have l3:((l.drop 20).drop 20).length = l.length - 40:=by rw [List.length_drop,List.length_drop];omega
 generalize l.take 20 = X at hl l1
 generalize (l.drop 20).take 20 = Y at hl l2
 generalize (l.drop 20).drop 20 = Z at hl l3
 refine ⟨3,?_⟩
 refine Eq.mpr (H.L1 ..) ?_
 unfold pQ.L1.T aH
 rw [cR,if_pos (by omega)]
 refine p4 [] X (Y ++ Z) (by simp;omega) (by rw [List.nil_append,←hl];exact h1) rfl (by rw [l1];rfl) fun M2 zx hzx hpx h2=>?_
 have lx:=hpx.length_eq
 (rw [e20];refine Eq.mpr (H.L1 ..) ?_)
 unfold pQ.L1.T aH
 rw [cR,if_pos (by omega)]
 refine p4 zx Y Z (by simp;omega) (by rw [List.nil_append] at h2;exact h2) (by omega) (by omega) fun M3 zy hzy hpy h3=>?_
 have ly:=hpy.length_eq
 (rw [e40];refine Eq.mpr (H.L1 ..) ?_)
 unfold pQ.L1.T aH
 rw [cR,if_neg (by omega)]
 refine p4 (zx ++ zy) Z [] (by simp;omega) (by rw [List.append_nil,List.append_assoc];exact h3) (by simp;omega) (by simp;omega) fun M4 zz hzz hpz h4=>?_
 have lz:=hpz.length_eq
 rw [List.append_nil,List.append_assoc] at h4
 refine ⟨3,?_⟩
 refine Eq.mpr (H.L2 ..) ?_
 unfold pQ.L2.T aH
 rw [cR,if_pos (by omega)]
 refine ⟨2,?_⟩
 (rw [e22];refine Eq.mpr (H.L3 ..) ?_)
 unfold pQ.L3.T aH
 rw [cR,if_pos (by omega)]
 refine w8 (zx.length + zy.length) [] zx zy zz (Nat.le_refl _) (List.length_pos_iff.1 (by omega)) (List.length_pos_iff.1 (by omega)) hzx hzy (by simp;omega) (by rw [List.nil_append];exact h4) rfl (by rw [aQ (by omega)];simp;omega) (by simp;omega) fun M5 w hw hpw h5=>?_
 have lw:=hpw.length_eq
 rw [List.length_append] at lw
 rw [List.nil_append] at h5
 (rw [e22,show lN (40 + 40) = 80 from aQ (by omega)];refine Eq.mpr (H.L3 ..) ?_)
 unfold pQ.L3.T aH
 rw [cR,if_neg (by omega),cR,if_neg (by rw [aQ (by omega)];omega)]
 have hperm:(w ++ zz).Perm l:=by
  rw [hl,←List.append_assoc]
  exact (hpw.trans (hpx.append hpy)).append hpz
 (rw [show lN (20 * 2) = 40 from aQ (by omega)];refine Eq.mpr (H.L2 ..) ?_)
 unfold pQ.L2.T aH
 rw [cR]
 split
 ·refine ⟨1,?_⟩
  (rw [show lN (2 * 40) = 80 from aQ (by omega)];refine Eq.mpr (H.L3 ..) ?_)
  unfold pQ.L3.T aH
  rw [cR,if_neg (by omega),cR,if_pos (by rw [aQ (by omega)];omega)]
  refine w8 (w.length + zz.length) [] w zz [] (Nat.le_refl _) (List.length_pos_iff.1 (by omega)) (List.length_pos_iff.1 (by omega)) hw hzz (by simp;omega) (by rw [List.nil_append,List.append_nil];exact h5) rfl (by rw [aQ (by omega)];simp;omega) (by simp;omega) fun M6 z hz hp h6=>?_
  (rw [show lN (40 * 2) = 80 from aQ (by omega)];refine Eq.mpr (H.L2 ..) ?_)
  unfold pQ.L2.T aH
  rw [cR,if_neg (by omega)]
  rw [List.nil_append,List.append_nil] at h6
  exact fin z M6 hz (hp.trans hperm) h6
 ·have hz0:zz = []:=List.length_eq_zero_iff.1 (by omega)
  subst hz0
  rw [List.append_nil] at h5 hperm
  exact fin w M5 hw hperm h5
end
end HL
namespace HL
def uN (q:Int) (l:List Jb):List bR:=(l.filter fun j=>decide (j.queue = q)).map Jb.e
def fE (Y:yK) (q:Int) (r:bR):Option bR:=match Y.P.find r.1 r.2 with
 | some v=>if v.1 = q then some (v.2.1,(Y.wh r).getD 0) else none
 | none=>none
theorem c9.aH7 {Y:yK} {d:qL} {tm:Int} (h:c9 Y d tm) {j:Jb} (hj:j∈d.l) (q:Int):fE Y q j.r = if j.queue = q then some j.e else none:=by
 unfold fE
 rw [show Y.P.find j.r.1 j.r.2 = some j.v5 from h.jf j hj,h.jw j hj]
 rfl
theorem yX {Y:yK} {q:Int}:∀ l:List Jb,(∀ j∈l,fE Y q j.r = if j.queue = q then some j.e else none)→(l.map Jb.r).filterMap (fE Y q) = uN q l
 | [],_=>rfl
 | j::l,h=>by
  have ih:=yX l fun z hz=>h z (List.mem_cons_of_mem _ hz)
  rw [List.map_cons,List.filterMap_cons,h j List.mem_cons_self,ih]
  unfold uN
  by_cases e:j.queue = q
  ·simp [e]
  ·simp [e]
theorem c9.aMQ {Y:yK} {d:qL} {tm:Int} (h:c9 Y d tm) (q:Int):(Y.P.refs.filterMap (fE Y q)).Perm (uN q d.l):=by
 have:=h.aFA.filterMap (fE Y q)
 rw [yX d.l fun j hj=>h.aH7 hj q] at this
 exact this
section
variable {w0:World} {F M:Mem} {R:VP} {os:vA} {X:vP} {Y:yK} {Q:cI} {dm:Nat} {d:qL} {tm:Int}
theorem jR.aMd {zs vs:List Value} {T:TypeId} (hg:gV PP T vs.length = true) (hz:zs.length = vs.length) (hone:∀ v∈vs,bS v = true) (hD:jR w0 F M os X Y Q) {K:Nat→Mem→Prop} (hK:∀ b F' M',Mem.le F F'→cS w0 F' b vs T→jR w0 F' M' os X Y Q→K b M') :
  (aJ PP w0).nw zs T (fun b M1=>(aJ PP w0).st T ⟨b,0,none⟩ (.agg vs.toArray) (fun M2=>K b M2) M1) M:=by
 obtain ⟨oa,oe,ob,ow,hfa,hfe,hfb,hfw,h⟩:=hD
 exact kC hg hz hone h fun b F' M' l' o' h'=>hK b F' M' l' o' ⟨oa,oe,ob,ow,hfa,hfe,hfb,hfw,h'⟩
theorem aKO {a g:Int} {v:V5} (hX:wH w0 F X) (hD:jR w0 F M os X Y Q) (hb:Y.P.l.length≤100000) (hw:Y.P.find a g = some v) (h1:∀ M',jR w0 F M' os X Y Q→R (.tuple #[nU v,.int .i64 0]) M') :
  C PP w0 Id.pB #[.pointer (some ⟨X.jt,0,none⟩),.agg #[.int .i64 a,.int .i64 g]] R M:=by
 obtain ⟨oa,oe,ob,ow,hfa,hfe,hfb,hfw,h⟩:=hD
 exact aDJ hX.j h.toJ hb hw fun M' h'=>h1 M' ⟨oa,oe,ob,ow,hfa,hfe,hfb,hfw,h'.ofJ⟩
theorem jR.lkW {r:dN} {x:Int} (hD:jR w0 F M os X Y Q) (hw:Y.wh r = some x):(aJ PP w0).lk 122 (.map (some X.mw)) (.agg #[.int .i64 r.1,.int .i64 r.2]) false M = some (.int .i64 x):=by
 obtain ⟨oa,oe,ob,ow,hfa,hfe,hfb,hfw,h⟩:=hD
 obtain ⟨inf,hi,hz,_⟩:=W.e2
 obtain ⟨g1,g2⟩:=(h.perm (aD4 _ _ _ _ _)).get List.mem_cons_self
 have hlk:=(lkF (k:=r) Tryz.underlying122 nY hi hz g1 g2 hfw).1
 rw [hw] at hlk
 exact hlk
theorem aJy (hX:wH w0 F X) (hD:jR w0 F M os X Y Q) (hb:Y.P.l.length≤100000) (hK:∀ M' s',jR w0 F M' os X Y (star (Es s' Y.P.refs) Q)→R (SV.v s') M') :
  C PP w0 Id.rY #[.pointer (some ⟨X.jt,0,none⟩)] R M:=by
 obtain ⟨oa,oe,ob,ow,hfa,hfe,hfb,hfw,h⟩:=hD
 apply rY.go
 unfold rY.T aH
 simp only [aT,add_eq,Nat.zero_add,J0 hX.j h.fr,aC,bN]
 obtain ⟨F1,hB,l1,back⟩:=h.toJ.wJ
 refine aDm hB hb fun M2 s2 lm2 h2=>?_
 rw [aM]
 have h3:=back M2 _ h2
 exact hK M2 s2 ⟨oa,oe,ob,ow,hfa,hfe,hfb,hfw,((h3.aX fun h=>h.oG fun _ _ h=>h.dp).perm (aDE _ _ _ _).symm).aX aA.yT⟩
theorem jR.aL9 {s:SV} {l:List bR} (hD:jR w0 F M os X Y (star (Es s l) Q)) (hb:l.length≤1000) {x y:Int} {K:SV→Mem→Prop} (hK:∀ M' s',jR w0 F M' os X Y (star (Es s' (l ++ [(x,y)])) Q)→K s' M') :
  (aJ PP w0).bsl 85 1 [(0,.agg #[.int .i64 x,.int .i64 y])] (fun v M1=>shS v fun s1=>(aJ PP w0).app #[85,85] 85 [SV.v s,SV.v s1] (fun v M2=>shS v fun s2=>K s2 M2) M1) M:=by
 obtain ⟨oa,oe,ob,ow,hfa,hfe,hfb,hfw,h⟩:=hD
 obtain ⟨F1,hB,l1,back⟩:=(h.aX aA.w9).wJ
 refine aJf hB x y fun M1 s1 lm1 h1=>?_
 rw [aM]
 refine aHk h1.right h1.nJ (by simp;omega) fun M2 s2 h2=>?_
 rw [aM]
 exact hK M2 s2 ⟨oa,oe,ob,ow,hfa,hfe,hfb,hfw,(back M2 _ h2).aX aA.yT⟩
theorem aDS {q:Int} (hX:wH w0 F X) (hD:jR w0 F M os X Y Q) (hv:c9 Y d tm) (hl:d.l.length≤59)
  (hK:∀ M' s' z,jR w0 F M' os X Y Q→wK w0 M' s' z→tF z→z.Perm (uN q d.l)→R (SV.v s') M') :
  C PP w0 Id.gF #[.pointer (some ⟨X.d,0,none⟩),.int .i64 q] R M:=by
 obtain ⟨e1,e2,e3,e4,e5⟩:=hv.wL
 have hrl:Y.P.refs.length = d.l.length:=by rw [hv.aFA.length_eq,List.length_map]
 apply gF.go
 intro aB H
 unfold gF.T aH
 have key:∀ (B A:List bR) (st so:SV) (F3 M3:Mem) (kk:Nat),Y.P.refs = A ++ B→Mem.le F F3→jR w0 F3 M3 os X Y (star (Es so (A.filterMap (fE Y q))) (star (Es st Y.P.refs) Q))→B.length < kk→gF.L1 aB kk (some ⟨X.d,0,none⟩) q so st ((st.n:Nat):Int) (A.length:Int) M3:=by
  intro B
  induction B with
  | nil =>
   intro A st so F3 M3 kk he l3 hD3 hk
   obtain ⟨kk,rfl⟩:∃ j,kk = j + 1:=⟨kk - 1,by omega⟩
   rw [List.append_nil] at he
   have hsn:=(hD3.zJ fun _ _ h=>h.dY).rdL.len
   refine Eq.mpr (H.L1 ..) ?_
   unfold gF.L1.T aH
   rw [cR,if_neg (by rw [hsn,he];omega)]
   have hfl:(A.filterMap (fE Y q)).length≤59:=Nat.le_trans (List.length_filterMap_le _ _) (by rw [←he,hrl];exact hl)
   have hrd:=hD3.rdL
   obtain ⟨oa,oe,ob,ow,hfa,hfe,hfb,hfw,h⟩:=hD3
   obtain ⟨F4,hB,l4,back⟩:=h.wJ
   refine aHI hB hrd hfl fun M5 s5 z l5 h5 hz hp=>?_
   rw [aM]
   have h6:=(back M5 _ h5).aX fun h=>h.right
   rw [←he] at hp
   exact hK M5 s5 z ((jR.zJ ⟨oa,oe,ob,ow,hfa,hfe,hfb,hfw,h6.fO l3⟩ fun _ _ h=>h.right).zJ fun _ _ h=>h.right) h5.nJ hz (hp.trans (hv.aMQ q))
  | cons r B ih =>
   intro A st so F3 M3 kk he l3 hD3 hk
   obtain ⟨kk,rfl⟩:∃ j,kk = j + 1:=⟨kk - 1,by omega⟩
   have ll:=congrArg List.length he
   simp only [List.length_append,List.length_cons] at ll hk
   have hrd:=(hD3.zJ fun _ _ h=>h.dY).rdL
   have hsn:=hrd.len
   have hget:Y.P.refs[A.length]? = some r:=by rw [he];simp
   have hrm:r∈Y.P.refs:=by rw [he];simp
   obtain ⟨j,hj,hjr⟩:=List.mem_map.1 (hv.aFA.mem_iff.1 hrm)
   have hfj:=hv.aH7 hj q
   rw [hjr] at hfj
   have hfind:Y.P.find r.1 r.2 = some j.v5:=by rw [←hjr];exact hv.jf j hj
   have hwh:Y.wh r = some j.zY:=by rw [←hjr];exact hv.jw j hj
   have hfl:(A.filterMap (fE Y q)).length≤59:=Nat.le_trans (List.length_filterMap_le _ _) (by omega)
   refine Eq.mpr (H.L1 ..) ?_
   unfold gF.L1.T aH
   rw [cR,if_pos (by omega)]
   refine aGm hrd (Mem.le_refl _) A.length rfl hget ?_
   refine hD3.aMd (vs:=[.int .i64 r.1,.int .i64 r.2]) a9 (by rfl) iS fun b4 F4 M4 l4 o4 hD4=>?_
   have hX4:=(hX.le l3).le l4
   simp only [aT,add_eq,Nat.zero_add,D7 hD4.di,fF a9 (o4.le hD4.fr),aC,bN,aZ,aW,aL,aU]
   have hi:lN ((A.length:Int) + 1) = ((A.length + 1:Nat):Int):=by rw [aQ (by omega)];omega
   refine ⟨?_,?_⟩
   rotate_left
   refine hD4.nwC fun b5 M5 lm5 hD5=>?_
   refine ⟨D7 hD5.di,fF a9 (o4.le hD5.fr),?_⟩
   refine aKO hX4 hD5 (by omega) hfind fun M6 hD6=>?_
   simp only [nU,cD,aW,aZ,aL,aU]
   refine hD6.pQ (vs:=j9 j.v5) fS (by rfl) (dH _) fun M7' hD7'=>?_
   obtain ⟨F7,l7,o7,hD7⟩:=hD7'.aKt
   generalize M7' = M7 at hD7 ⊢
   rotate_left
   refine aKO hX4 hD4 (by omega) hfind fun M6 hD6=>?_
   simp only [nU,cD,aW,aZ,aL,aU]
   refine hD6.aMd (vs:=j9 j.v5) fS (by rfl) (dH _) fun b5 F7 M7 l7 o7 hD7=>?_
   all_goals
    have l37:Mem.le F F7:=Mem.le_trans l3 (Mem.le_trans l4 l7)
    have hent:(aJ PP w0).oF 44 [(0,.int .i64 j.key),(1,.int .i64 j.zY)] = some (.agg #[.int .i64 j.key,.int .i64 j.zY]):=aMh _ _
    simp only [mB W.c3 (o7.le hD7.fr) (o:=0) rfl,mB W.c2 (o7.le hD7.fr) (o:=1) rfl,aC,aL]
    rw [fJ,hi]
    have happ:(A ++ [r]).filterMap (fE Y q) = A.filterMap (fE Y q) ++ (if j.queue = q then [j.e] else []):=by
     rw [List.filterMap_append]
     congr 1
     rw [List.filterMap_cons,List.filterMap_nil,hfj]
     by_cases e:j.queue = q
     ·rw [if_pos e,if_pos e]
     ·rw [if_neg e,if_neg e]
    by_cases hc:j.queue = q
    ·rw [if_pos (show j.v5.1 = q from hc)]
     simp only [aT,add_eq,Nat.zero_add,D8 hD7.di,fF a9 ((o4.le l7).le hD7.fr),hD7.lkW hwh,aC,aZ,aW,aL,aU]
     rw [show (aJ PP w0).oF 44 [(0,.int .i64 j.v5.2.1),(1,.int .i64 j.zY)] = some (.agg #[.int .i64 j.key,.int .i64 j.zY]) from hent]
     simp only [aC,aZ,aW,aL,aU]
     refine hD7.aL9 (by omega) fun M8 s8 hD8=>?_
     rw [if_pos hc] at happ
     have hD8':jR w0 F7 M8 os X Y (star (Es s8 ((A ++ [r]).filterMap (fE Y q))) (star (Es st Y.P.refs) Q)):=by rw [happ];exact hD8
     have:=ih (A ++ [r]) st s8 F7 M8 kk (by rw [he];simp) l37 hD8' (by omega)
     rw [List.length_append,List.length_singleton] at this
     exact this
    ·rw [if_neg (show ¬ j.v5.1 = q from hc)]
     rw [if_neg hc,List.append_nil] at happ
     have hD8':jR w0 F7 M7 os X Y (star (Es so ((A ++ [r]).filterMap (fE Y q))) (star (Es st Y.P.refs) Q)):=by rw [happ];exact hD7
     have:=ih (A ++ [r]) st so F7 M7 kk (by rw [he];simp) l37 hD8' (by omega)
     rw [List.length_append,List.length_singleton] at this
     exact this
 simp only [aT,add_eq,Nat.zero_add,D7 hD.di,aC,bN]
 refine aJy hX hD (by omega) fun M2 s2 hD2=>?_
 rw [aM]
 exact ⟨_,key Y.P.refs [] s2 ⟨none,0,0⟩ F M2 (Y.P.refs.length + 1) rfl (Mem.le_refl _) hD2.aIx (by omega)⟩
end
end HL
namespace HL
theorem aEv {q:Int} {l:List Jb} {i:Nat} {j:Jb} (h:l[i]? = some j):uN q (l.take (i + 1)) = uN q (l.take i) ++ (if j.queue = q then [j.e] else []):=by
 rw [List.take_add_one,h]
 unfold uN
 rw [List.filter_append,List.map_append]
 congr 1
 show (List.filter (fun j=>decide (j.queue = q)) [j]).map Jb.e = _
 by_cases e:j.queue = q
 ·rw [if_pos e];simp [e]
 ·rw [if_neg e];simp [e]
theorem aAn {q:Int} (l:List Jb):(uN q l).length≤l.length:=by
 unfold uN
 rw [List.length_map]
 exact List.length_filter_le _ _
section
variable {w0:World} {F M:Mem} {R:VP} {os:vA} {X:vP} {Y:yK} {Q:cI} {dm:Nat} {d:qL} {tm:Int}
theorem aI1 {q:Int} (h:aA w0 F M (star (eW dm d) Q)) (hl:d.l.length≤1000) (hK:∀ M' s' z,Mem.le M M'→wK w0 M' s' z→tF z→z.Perm (uN q d.l)→R (SV.v s') M') :
  C PP w0 Id.eR #[.pointer (some ⟨dm,0,none⟩),.int .i64 q] R M:=by
 obtain ⟨p,sl,hd⟩:=eW.open_ h
 have oD:=hd.bC
 have hn:=hd.n
 have e71:∀ {M':Mem},Mem.le M M'→(aJ PP w0).ld 71 ⟨dm,4,none⟩ M' = some (SV.v sl):=fun hl=>mB W.c71 (oD.le hl) rfl
 apply eR.go
 intro aB H
 unfold eR.T aH
 have key:∀ (r i kk:Nat) (so:SV) (M3:Mem),i + r = d.l.length→aA w0 M M3 (star (Es so (uN q (d.l.take i))) emp)→r < kk→eR.L1 aB kk (some ⟨dm,0,none⟩) q so (i:Int) M3:=by
  intro r
  induction r with
  | zero =>
   intro i kk so M3 hi h3 hk
   obtain ⟨kk,rfl⟩:∃ j,kk = j + 1:=⟨kk - 1,by omega⟩
   refine Eq.mpr (H.L1 ..) ?_
   unfold eR.L1.T aH
   simp only [aT,add_eq,Nat.zero_add,e71 h3.fr,aC,aM]
   rw [cR,if_neg (by omega)]
   have htk:d.l.take i = d.l:=List.take_of_length_le (by omega)
   rw [htk] at h3
   refine aHM h3 h3.nJ (by have:=aAn (q:=q) d.l;omega) fun M5 s5 z l5 h5 hz hp=>?_
   rw [aM]
   exact hK M5 s5 z h5.fr h5.nJ hz hp
  | succ r ih =>
   intro i kk so M3 hi h3 hk
   obtain ⟨kk,rfl⟩:∃ j,kk = j + 1:=⟨kk - 1,by omega⟩
   have hil:i < d.l.length:=by omega
   have hj:=List.getElem?_eq_getElem hil
   generalize d.l[i] = j at hj
   obtain ⟨blk,rest,e,ha,_,_,hrow⟩:=dX.row hd.right (by omega)
   have oL:=hrow.bC
   have hcell:∀ {M':Mem} (f:Nat) (v:Value),Mem.le M M'→(x6 j)[f]? = some v→rd w0 M' ⟨blk,i * 6 + f,none⟩ = some v:=fun f v hl hf=>by
    have h4:=aDi xM hj hf
    rw [aN (oL.le hl)]
    rw [List.getElem?_append_left (List.getElem?_eq_some_iff.1 h4).1]
    exact h4
   have hi1:lN ((i:Int) + 1) = ((i + 1:Nat):Int):=by rw [aQ (by omega)];omega
   have htk:=aEv (q:=q) hj
   refine Eq.mpr (H.L1 ..) ?_
   unfold eR.L1.T aH
   simp only [aT,add_eq,Nat.zero_add,e71 h3.fr,aC,aM]
   rw [cR,if_pos (by omega),ha,aT]
   refine ⟨⟨by omega,by omega⟩,?_⟩
   have hq0:(aJ PP w0).ld 3 (Addr.add ⟨blk,0,none⟩ ((i:Int).toNat * 6)) M3 = some (.int .i64 j.queue):=by
    rw [add_eq,Nat.zero_add,Int.toNat_natCast,aR W.c3]
    exact hcell 0 _ h3.fr rfl
   rw [hq0]
   simp only [aC,aL]
   rw [fJ,hi1]
   by_cases hc:j.queue = q
   ·rw [if_pos hc,aT]
    refine ⟨⟨by omega,by omega⟩,?_⟩
    have he2:(aJ PP w0).ld 44 (Addr.add (Addr.add ⟨blk,0,none⟩ ((i:Int).toNat * 6)) 2) M3 = some (.agg #[.int .i64 j.key,.int .i64 j.zY]):=by
     rw [add_eq,Nat.zero_add,Int.toNat_natCast,add_eq]
     refine dG (cs:=[.int .i64 j.key,.int .i64 j.zY]) aBY (fun f v hv=>?_)
     match f,hv with
     | 0,hv=>simp at hv;subst hv;exact hcell 2 _ h3.fr rfl
     | 1,hv=>simp at hv;subst hv;exact hcell 3 _ h3.fr rfl
     | f + 2,hv=>simp at hv
    rw [he2]
    simp only [aC,aZ,aW,aL,aU]
    rw [if_pos hc] at htk
    refine aJf h3 j.key j.zY fun M4 s4 l4 h4=>?_
    rw [aM]
    have hle:=aAn (q:=q) (d.l.take i)
    rw [List.length_take] at hle
    refine aHk h4.right h4.nJ (by simp;omega) fun M5 s5 h5=>?_
    rw [aM]
    exact ih (i + 1) kk s5 M5 (by omega) (by rw [htk];exact h5) (by omega)
   ·rw [if_neg hc]
    rw [if_neg hc,List.append_nil] at htk
    exact ih (i + 1) kk so M3 (by omega) (by rw [htk];exact h3) (by omega)
 exact ⟨d.l.length + 1,key d.l.length 0 (d.l.length + 1) ⟨none,0,0⟩ M (by omega) (aA.tV h.self (Mem.le_refl _) wE.nil) (by omega)⟩
end
end HL
end Go.Proofs.YtodobkbnmjgkdaaGreat
