import Derived.Test.YtodobkbnmjgkdaaGreatPe13
namespace Go.Proofs.YtodobkbnmjgkdaaGreat
open Go.RowKit (Below)
set_option linter.unusedVariables false
set_option linter.unusedSimpArgs false
set_option maxRecDepth 100000
namespace HL
section
variable {w0:World} {M F:Mem} {R:VP}
theorem aD2 {x:Int} (h:R (.bool false) M):C PP w0 Id.eM #[.int .i64 x] R M:=by
 apply eM.go
 unfold eM.T aH
 rw [bne_self_eq_false];exact h
theorem aDx {x y:Int} (h:R (.int .i64 (if x < y then -1 else if y < x then 1 else 0)) M):C PP w0 Id.dF #[.int .i64 x,.int .i64 y] R M:=by
 apply dF.go
 unfold dF.T aH
 refine aD2 ?_
 simp only [go_sem]
 refine aD2 ?_
 simp only [go_sem,mE,cR]
 split
 ·rename_i h1;rw [if_pos h1] at h;exact h
 ·rename_i h1
  rw [if_neg h1] at h
  split
  ·rename_i h2;rw [if_pos (by omega)] at h;exact h
  ·rename_i h2;rw [if_neg (by omega)] at h;exact h
theorem aKZ {s:SV} {x y:Int} (hs:qO w0 M .i64 s [x,y]) (h:R (.int .i64 (if x = 0 then y else x)) M):C PP w0 Id.cN #[SV.v s] R M:=by
 apply cN.go
 intro aB H
 unfold cN.T aH
 have hl:=hs.len
 simp only [List.length_cons,List.length_nil] at hl
 refine ⟨3,?_⟩
 refine Eq.mpr (H.L1 ..) ?_
 unfold cN.L1.T aH
 rw [cR,if_pos (by omega)]
 refine rdx W.c3 hs (Mem.le_refl _) 0 (by rfl) rfl ?_
 rw [cB]
 split
 ·rename_i h0
  rw [if_pos h0] at h
  (rw [show lN ((0:Int) + 1) = 1 from rfl];refine Eq.mpr (H.L1 ..) ?_)
  unfold cN.L1.T aH
  rw [cR,if_pos (by omega)]
  refine rdx W.c3 hs (Mem.le_refl _) 1 (by rfl) rfl ?_
  rw [cB]
  split
  ·rename_i h1
   (rw [show lN ((1:Int) + 1) = 2 from rfl];refine Eq.mpr (H.L1 ..) ?_)
   unfold cN.L1.T aH
   rw [cR,if_neg (by omega)]
   rw [h1] at h;exact h
  ·exact h
 ·rename_i h0
  rw [if_neg h0] at h;exact h
theorem sE {a0 a1 b0 b1:Int} (h:∀ M',Mem.le M M'→R (.int .i64 (aBU a0 a1 b0 b1)) M'):C PP w0 Id.bQ #[.agg #[.int .i64 a0,.int .i64 a1],.agg #[.int .i64 b0,.int .i64 b1]] R M:=by
 apply bQ.go
 unfold bQ.T aH
 intro x1 hx1 hw1
 intro x2 hx2 hw2
 have f1:=((Fit.nil (w0:=w0) (Mem.le_refl M)).new hx1 hw1 (cs:=[.int .i64 a0,.int .i64 a1]) (e:=44)).new hx2 hw2 (cs:=[.int .i64 b0,.int .i64 b1]) (e:=44)
 have o2:=f1.own List.mem_cons_self
 have o1:=f1.own (List.mem_cons_of_mem _ List.mem_cons_self)
 have e1:=aN (o:=0) o1
 have e2:=aN (o:=0) o2
 have e3:=aN (o:=1) o1
 have e4:=aN (o:=1) o2
 have hle:=f1.fr
 generalize (M.set x1 (.row [.int .i64 a0,.int .i64 a1] 44)).set x2 (.row [.int .i64 b0,.int .i64 b1] 44) = M1 at e1 e2 e3 e4 hle ⊢
 have e1':rd w0 M1 ⟨x1,0,none⟩ = some (.int .i64 a0):=e1
 have e2':rd w0 M1 ⟨x2,0,none⟩ = some (.int .i64 b0):=e2
 have e3':rd w0 M1 ⟨x1,1,none⟩ = some (.int .i64 a1):=e3
 have e4':rd w0 M1 ⟨x2,1,none⟩ = some (.int .i64 b1):=e4
 simp only [go_sem,add_eq,Nat.zero_add,e1',e2',e3',e4']
 refine aDx ?_
 simp only [go_sem,e3',e4']
 refine ⟨trivial,trivial,?_⟩
 refine aDx ?_
 simp only [go_sem]
 have i1:gC (if a0 < b0 then (-1:Int) else if b0 < a0 then 1 else 0):=by unfold gC;split <;> (try split) <;> omega
 have i2:gC (if a1 < b1 then (-1:Int) else if b1 < a1 then 1 else 0):=by unfold gC;split <;> (try split) <;> omega
 refine aLg [_,_] (n:=2) (by decide) (by kernel_rfl) rfl (aLn (fun x hx=>by
  simp only [List.mem_cons,List.not_mem_nil,or_false] at hx
  rcases hx with rfl | rfl
  ·exact i1
  ·exact i2)) fun M2 s l2 r2=>?_
 refine aKZ r2 ?_
 simp only [go_sem]
 have hh:=h M2 (Mem.le_trans hle l2)
 have:aBU a0 a1 b0 b1 = (if (if a0 < b0 then (-1:Int) else if b0 < a0 then 1 else 0) = 0 then (if a1 < b1 then (-1:Int) else if b1 < a1 then 1 else 0) else (if a0 < b0 then (-1:Int) else if b0 < a0 then 1 else 0)):=by
  unfold aBU
  by_cases h1:a0 < b0
  ·simp only [if_pos h1];rw [if_neg (by decide)]
  ·by_cases h2:b0 < a0
   ·simp only [if_neg h1,if_pos h2];rw [if_neg (by decide)]
   ·simp only [if_neg h1,if_neg h2];rw [if_pos trivial]
 rw [←this];exact hh
theorem neE {X Y:Operand} (a b c d:Int):(aJ PP w0).bq .neq 44 X Y (.agg #[.int .i64 a,.int .i64 b]) (.agg #[.int .i64 c,.int .i64 d]) = some (.bool (!(a == c && b == d))):=by
 have:=aA5 (w0:=w0) (X:=X) (Y:=Y) (es:=[a == c,b == d]) (xs:=#[.int .i64 a,.int .i64 b]) (ys:=#[.int .i64 c,.int .i64 d]) Tryz.underlying44 (by kernel_rfl) (by kernel_rfl)
  ⟨by decide,⟨.int .i64 a,.int .i64 c,by kernel_rfl,by kernel_rfl,j3 Tryz.underlying2 a c⟩,by decide,⟨.int .i64 b,.int .i64 d,by kernel_rfl,by kernel_rfl,j3 Tryz.underlying2 b d⟩,trivial⟩
 simpa [List.all] using this
end
end HL
namespace HL
section
variable {w0:World} {M F:Mem} {R:VP}
variable {a:Nat} {α:AS}
theorem aDZ (hA:aA w0 F M (aF a α)) {i:Int} (h:∀ M',aA w0 F M' (aF a α.tick.tick)→R (.agg #[.int .i64 (α.jW i 7),.int .i64 (α.jW i 8)]) M'):C PP w0 Id.jN #[.pointer (some ⟨a,0,none⟩),.int .i64 i] R M:=by
 apply jN.go
 unfold jN.T aH
 intro b hb hw
 have H1:aA w0 F _ (star (bA b _ 44) (aF a α)):=hA.new hb hw [.int .i64 0,.int .i64 0] 44
 simp only [go_sem,Option.isNone_some,mE]
 obtain ⟨F',hB,_,back⟩:=H1.last
 refine qU hB fun M2 hB2=>?_
 simp only [go_sem]
 refine qU hB2 fun M3 hB3=>?_
 simp only [go_sem]
 have H3:=back M3 _ hB3
 refine hJ (vs:=[.int .i64 (α.jW i 7),.int .i64 (α.tick.jW i 8)]) W.g44 H3.bC (by simp) (by intro v hv;simp only [List.mem_cons,List.not_mem_nil,or_false] at hv;rcases hv with rfl | rfl <;> rfl) ?_
 have H4:=H3.lJ (cs':=eO [.int .i64 0,.int .i64 0] 0 [.int .i64 (α.jW i 7),.int .i64 (α.tick.jW i 8)]) (e':=44)
 have o4:=H4.bC
 rw [rC,dG (cs:=[.int .i64 (α.jW i 7),.int .i64 (α.tick.jW i 8)]) W.g44 (fun j v hj=>by rw [add_eq,aN o4,Nat.zero_add];exact hj)]
 exact h _ H4.right
def AS.zC (α:AS) (i j:Int):Bool :=
 decide (aBU (α.jW i 7) (α.jW i 8) (α.jW j 7) (α.jW j 8) < 0) || (aBU (α.jW i 7) (α.jW i 8) (α.jW j 7) (α.jW j 8) == 0 && decide (i < j))
theorem aGB (hA:aA w0 F M (aF a α)) {i j:Int} (h:∀ M',aA w0 F M' (aF a α.tick.tick.tick.tick)→R (.bool (α.zC i j)) M'):C PP w0 Id.iG #[.pointer (some ⟨a,0,none⟩),.int .i64 i,.int .i64 j] R M:=by
 apply iG.go
 unfold iG.T aH
 refine aDZ hA fun M1 hA1=>?_
 simp only [go_sem]
 refine aDZ hA1 fun M2 hA2=>?_
 simp only [go_sem]
 refine sE fun M3 l3=>?_
 have hh:=h M3 (hA2.le l3)
 unfold AS.zC at hh
 have e:∀ (i f:Int),α.tick.tick.jW i f = α.jW i f:=fun _ _=>rfl
 simp only [go_sem,cR,fJ,e]
 split
 ·rename_i h1
  rw [decide_eq_true h1] at hh;exact hh
 ·rename_i h1
  rw [decide_eq_false h1] at hh
  split
  ·rename_i h2
   rw [h2] at hh
   simpa using hh
  ·rename_i h2
   have:(aBU (α.jW i 7) (α.jW i 8) (α.jW j 7) (α.jW j 8) == 0) = false:=by simpa using h2
   rw [this] at hh;exact hh
theorem aIl (hA:aA w0 F M (aF a α)) {i key:Int} (h0:α.jW i 7 < key→∀ M',aA w0 F M' (aF a α.tick)→R (.bool false) M')
  (h1:key≤α.jW i 7→∀ M',aA w0 F M' (aF a (α.tick.mC i 7 key).tick)→R (.bool (α.xZ i 7)) M'):C PP w0 Id.jJ #[.pointer (some ⟨a,0,none⟩),.int .i64 i,.int .i64 key] R M:=by
 apply jJ.go
 unfold jJ.T aH
 simp only [go_sem,Option.isNone_some,mE]
 refine qU hA fun M1 hA1=>?_
 simp only [go_sem,cR]
 split
 ·exact h0 (by omega) M1 hA1
 ·refine iA hA1 fun M2 hA2=>?_
  simp only [go_sem]
  exact h1 (by omega) M2 hA2
theorem zG (hA:aA w0 F M (aF a α)) {i:Int} (h:∀ M',aA w0 F M' (aF a α.tick)→R (.int .i64 (α.fR i 9)) M'):C PP w0 Id.kN #[.pointer (some ⟨a,0,none⟩),.int .i64 i] R M:=by
 apply kN.go
 unfold kN.T aH
 simp only [go_sem,Option.isNone_some,mE]
 refine eZ hA fun M1 hA1=>?_
 simp only [go_sem]
 exact h M1 hA1
theorem aA6 (hA:aA w0 F M (aF a α)) {n i:Nat} (hn:α.live n = true) (hi:α.live i = true) (h:∀ M' β,aA w0 F M' (aF a β)→AS.Sm 2 ((α.put n 6 i).put i 9 n) β→R (.tuple #[]) M'):C PP w0 Id.mU #[.pointer (some ⟨a,0,none⟩),.int .i64 (n:Int),.int .i64 (i:Int)] R M:=by
 apply mU.go
 unfold mU.T aH
 simp only [go_sem,Option.isNone_some,Bool.not_false,dZ]
 refine iA hA fun M1 hA1=>?_
 simp only [go_sem]
 refine iA hA1 fun M2 hA2=>?_
 simp only [go_sem]
 rw [show α.mC (n:Int) 6 (i:Int) = α.put n 6 (i:Int) from AS.cU (f:=6) hn (by omega) _] at hA2
 rw [show (α.put n 6 (i:Int)).tick.mC (i:Int) 9 (n:Int) = (α.put n 6 (i:Int)).tick.put i 9 (n:Int) from AS.cU (α:=(α.put n 6 (i:Int)).tick) (f:=9) hi (by omega) _] at hA2
 exact h M2 _ hA2 ((AS.aO.put i 9 _).trans AS.aO)
theorem aHp (hA:aA w0 F M (aF a α)) {key serial:Int} (h0:α.next = none→∀ M',aA w0 F M' (aF a α.tick)→R (.tuple #[.int .i64 (-1),.bool false]) M')
  (h1:∀ c,α.next = some c→∀ M' β,aA w0 F M' (aF a β)→AS.Sm 3 ((α.take.put c 7 key).put c 8 serial) β→R (.tuple #[.int .i64 (c:Int),.bool true]) M'):C PP w0 Id.mT #[.pointer (some ⟨a,0,none⟩),.int .i64 key,.int .i64 serial] R M:=by
 apply mT.go
 unfold mT.T aH
 simp only [go_sem,Option.isNone_some,mE]
 refine aFO hA fun M1 hA1=>?_
 cases hnx:α.next with
 | none =>
  rw [show α.wC = -1 from by unfold AS.wC;rw [hnx]]
  rw [(AS.xN hnx).1] at hA1
  simp only [go_sem,Option.isSome_none,mE]
  exact h0 hnx M1 hA1
 | some c =>
  obtain ⟨hcn,hcl,hct⟩:=AS.kL hA.inv hnx
  rw [show α.wC = (c:Int) from by unfold AS.wC;rw [hnx]]
  simp only [go_sem,Option.isSome_some,dZ]
  have hlv:α.take.tick.live c = true:=by
   show α.take.live c = true
   rw [hct]
   show (if c = c then true else α.live c) = true
   rw [if_pos rfl]
  refine iA hA1 fun M2 hA2=>?_
  simp only [go_sem]
  refine iA hA2 fun M3 hA3=>?_
  simp only [go_sem]
  rw [show α.take.tick.mC (c:Int) 7 key = α.take.tick.put c 7 key from AS.cU (α:=α.take.tick) (f:=7) hlv (by omega) _] at hA3
  rw [show (α.take.tick.put c 7 key).tick.mC (c:Int) 8 serial = (α.take.tick.put c 7 key).tick.put c 8 serial from AS.cU (α:=(α.take.tick.put c 7 key).tick) (f:=8) hlv (by omega) _] at hA3
  exact h1 c hnx M3 _ hA3 ((((AS.aO.put c 7 key).trans AS.aO).put c 8 serial).trans AS.aO)
end
end HL
namespace HL
abbrev bR:=Int × Int
def Lt (a b:bR):Prop:=a.1 < b.1∨a.1 = b.1∧a.2 < b.2
instance (a b:bR):Decidable (Lt a b):=by unfold Lt;infer_instance
theorem Lt.irr {a:bR}:¬ Lt a a:=by unfold Lt;omega
theorem Lt.tr {a b c:bR} (h:Lt a b) (h2:Lt b c):Lt a c:=by unfold Lt at *;omega
theorem Lt.aH8 {a b:bR} (h:Lt a b):¬ Lt b a:=by unfold Lt at *;omega
theorem Lt.tot {a b:bR} (h:¬ Lt a b) (h2:¬ Lt b a):a = b:=by
 unfold Lt at *
 exact Prod.ext (by omega) (by omega)
theorem nLt.tr {a b c:bR} (h:¬ Lt b a) (h2:¬ Lt c b):¬ Lt c a:=by unfold Lt at *;omega
theorem nLt.lt {a b c:bR} (h:¬ Lt b a) (h2:Lt b c):Lt a c:=by unfold Lt at *;omega
theorem zP (a b:bR):(aBU a.1 a.2 b.1 b.2 < 0) = Lt a b:=by
 unfold aBU Lt
 apply propext
 split
 ·omega
 ·split
  ·omega
  ·split
   ·omega
   ·split <;> omega
def tF (l:List bR):Prop:=l.Pairwise fun a b=>¬ Lt b a
theorem tF.eq:∀ {l m:List bR},tF l→tF m→l.Perm m→l = m:=by
 intro l
 induction l with
 | nil=>intro m _ _ h;exact (List.Perm.nil_eq h)
 | cons a l ih =>
  intro m hl hm hp
  cases m with
  | nil=>exact absurd hp.length_eq (by simp)
  | cons b m =>
   have hab:a = b:=by
    rcases List.mem_cons.1 (hp.mem_iff.1 List.mem_cons_self) with h | h
    ·exact h
    ·rcases List.mem_cons.1 (hp.mem_iff.2 List.mem_cons_self) with h2 | h2
     ·exact h2.symm
     ·exact Lt.tot ((List.pairwise_cons.1 hm).1 _ h) ((List.pairwise_cons.1 hl).1 _ h2)
   subst hab
   rw [ih (List.pairwise_cons.1 hl).2 (List.pairwise_cons.1 hm).2 (List.Perm.cons_inv hp)]
def ins (l:List bR) (e:bR):List bR:=l.takeWhile (fun x=>decide (Lt x e)) ++ e::l.dropWhile (fun x=>decide (Lt x e))
theorem tF.sub {l m:List bR} (h:tF l) (hs:m.Sublist l):tF m:=List.Pairwise.sublist hs h
theorem tF.nil:tF []:=List.Pairwise.nil
end HL
namespace HL
abbrev cH:=Nat × bR
def Bf (x y:cH):Prop:=Lt x.2 y.2∨x.2 = y.2∧x.1 < y.1
instance (x y:cH):Decidable (Bf x y):=by unfold Bf;infer_instance
theorem Bf.tr {x y z:cH} (h:Bf x y) (h2:Bf y z):Bf x z:=by
 rcases h with h | ⟨h,h'⟩
 ·rcases h2 with h2 | ⟨h2,h2'⟩
  ·exact .inl (h.tr h2)
  ·exact .inl (h2▸h)
 ·rcases h2 with h2 | ⟨h2,h2'⟩
  ·exact .inl (h▸h2)
  ·exact .inr ⟨h.trans h2,by omega⟩
theorem Bf.tot {x y:cH} (h:¬ Bf x y) (h2:x.1≠y.1):Bf y x:=by
 by_cases h3:Lt y.2 x.2
 ·exact .inl h3
 ·have h4:¬ Lt x.2 y.2:=fun h5=>h (.inl h5)
  have h5:x.2 = y.2:=Lt.tot h4 h3
  exact .inr ⟨h5.symm,by
   have:¬ (x.1 < y.1):=fun h6=>h (.inr ⟨h5,h6⟩)
   omega⟩
namespace AS
structure Nd (α:AS) (n i:Nat) (e:bR):Prop where
 ln:α.live n = true
 li:α.live i = true
 it:α.get n 6 = (i:Int)
 nd:α.get i 9 = (n:Int)
 k:α.get i 7 = e.1
 s:α.get i 8 = e.2
theorem Nd.congr {α β:AS} {n i:Nat} {e:bR} (h:α.Nd n i e) (h1:∀ f,β.get n f = α.get n f) (h2:∀ f,β.get i f = α.get i f) (h3:β.live n = α.live n) (h4:β.live i = α.live i):β.Nd n i e :=
 ⟨h3.trans h.ln,h4.trans h.li,(h1 6).trans h.it,(h2 9).trans h.nd,(h2 7).trans h.k,(h2 8).trans h.s⟩
structure n9 (S:Nat→Prop) (k:Int) (α β:AS):Prop where
 n:β.n = α.n
 get:∀ c,¬ S c→∀ f,β.get c f = α.get c f
 live:β.live = α.live
 never:β.never = α.never
 free:β.free = α.free
 steps:0≤α.steps∧α.steps≤9223372036854775807→β.steps≤9223372036854775807∧α.steps≤β.steps∧β.steps≤α.steps + k
theorem n9.refl {S:Nat→Prop} {α:AS}:n9 S 0 α α:=⟨rfl,fun _ _ _=>rfl,rfl,rfl,rfl,fun h=>⟨h.2,by omega,by omega⟩⟩
theorem n9.trans {S:Nat→Prop} {j k:Int} {α β γ:AS} (h:n9 S j α β) (h2:n9 S k β γ):n9 S (j + k) α γ :=
 ⟨h2.n.trans h.n,fun c hc f=>(h2.get c hc f).trans (h.get c hc f),h2.live.trans h.live,h2.never.trans h.never,h2.free.trans h.free,fun h0=>by have h1:=h.steps h0;have h3:=h2.steps ⟨by omega,h1.1⟩;omega⟩
theorem n9.mono {S T:Nat→Prop} {j k:Int} {α β:AS} (h:n9 S j α β) (hS:∀ c,S c→T c) (hk:j≤k):n9 T k α β :=
 ⟨h.n,fun c hc f=>h.get c (fun hs=>hc (hS c hs)) f,h.live,h.never,h.free,fun h0=>by have:=h.steps h0;omega⟩
theorem Sm.lW {S:Nat→Prop} {k:Int} {α β:AS} (h:Sm k α β):n9 S k α β:=⟨h.n,fun c _ f=>by rw [h.get],h.live,h.never,h.free,h.steps⟩
theorem eQ (α:AS) (c f:Nat) (v:Int) (c' f':Nat):(α.put c f v).get c' f' = if c' = c∧f' = f then v else α.get c' f':=rfl
theorem aC4 {S:Nat→Prop} {α:AS} {c f:Nat} {v:Int} (h:S c):n9 S 0 α (α.put c f v) :=
 ⟨rfl,fun c' hc f'=>by rw [eQ,if_neg (fun e:c' = c∧f' = f=>hc (by rw [e.1];exact h))],rfl,rfl,rfl,fun h=>⟨h.2,Int.le_refl _,by show α.steps≤_;omega⟩⟩
theorem n9.tick {S:Nat→Prop} {k:Int} {α β:AS} (h:n9 S k α β):n9 S (k + 1) α β.tick:=h.trans aO.lW
theorem n9.put {S:Nat→Prop} {k:Int} {α β:AS} (h:n9 S k α β) {c f:Nat} {v:Int} (hc:S c):n9 S k α (β.put c f v):=by
 have:=h.trans (aC4 (f:=f) (v:=v) hc)
 exact this.mono (fun _ h=>h) (by omega)
theorem aFq {α:AS} {f:Int} {c:Int} (h:α.oC c = false):α.fR c f = -1:=by
 unfold fR jW xZ
 rw [h];simp
theorem aAb {α:AS} {c f:Nat} (h:α.live c = true) (hf:f < 10) (hv:α.get c f = -1):α.fR (c:Int) (f:Int) = -1:=by
 unfold fR
 rw [iV h hf,hv,if_pos (by omega)]
theorem aGo {α:AS} {c f v:Int} (h:α.oC c = false):α.mC c f v = α:=by
 unfold mC xZ
 rw [h];simp
theorem xP {α:AS}:α.oC (-1) = false:=by unfold oC;simp
theorem kP {α:AS} (hi:α.Inv) {c f:Nat} {v:Int} (h:α.live c = true) (hf:f < 10) (hv:α.get c f = v) (hl:v = -1∨∃ y:Nat,v = (y:Int)∧α.live y = true):α.fR (c:Int) (f:Int) = v:=by
 rcases hl with rfl | ⟨y,rfl,hy⟩
 ·exact aAb h hf hv
 ·exact dI h hf hv (cJ hi hy)
theorem aGn {α:AS} {i j:Nat} {e g:bR} (h1:α.live i = true) (h2:α.live j = true) (e7:α.get i 7 = e.1) (e8:α.get i 8 = e.2) (g7:α.get j 7 = g.1) (g8:α.get j 8 = g.2):α.zC (i:Int) (j:Int) = decide (Bf (i,e) (j,g)):=by
 have a7:α.jW (i:Int) 7 = e.1:=(iV (f:=7) h1 (by omega)).trans e7
 have a8:α.jW (i:Int) 8 = e.2:=(iV (f:=8) h1 (by omega)).trans e8
 have b7:α.jW (j:Int) 7 = g.1:=(iV (f:=7) h2 (by omega)).trans g7
 have b8:α.jW (j:Int) 8 = g.2:=(iV (f:=8) h2 (by omega)).trans g8
 unfold zC
 rw [a7,a8,b7,b8]
 have hlt:=zP e g
 have heq:(aBU e.1 e.2 g.1 g.2 = 0) = (e = g):=by
  unfold aBU
  apply propext
  constructor
  ·intro h
   refine Prod.ext ?_ ?_ <;> (revert h;split <;> (try split) <;> (try split) <;> (try split) <;> intro h <;> omega)
  ·rintro rfl;simp
 rw [Bool.eq_iff_iff]
 simp only [Bool.or_eq_true,Bool.and_eq_true,decide_eq_true_eq,beq_iff_eq,hlt,heq]
 unfold Bf
 simp only
 constructor
 ·rintro (h | ⟨h,h'⟩)
  ·exact .inl h
  ·exact .inr ⟨h,by omega⟩
 ·rintro (h | ⟨h,h'⟩)
  ·exact .inl h
  ·exact .inr ⟨h,by omega⟩
theorem aGM {α:AS} (hi:α.Inv) {c:Nat} (h:α.next = some c):α.take.len = α.len + 1∧α.len < α.n:=by
 have h1:=hi.len
 have h2:=(aDQ hi).len
 have h3:=hi.never
 have key:(α.take.free.length + 1 = α.free.length∧α.take.never = α.never)∨(α.free.length = 0∧α.take.free.length = 0∧α.take.never = α.never + 1∧α.never < α.n):=by
  unfold next at h
  unfold take
  cases hl:α.free.getLast? with
  | some x =>
   have eT:α.free≠[]:=by intro e;rw [e] at hl;cases hl
   have h4:α.free.length≠0:=fun e=>eT (List.eq_nil_of_length_eq_zero e)
   have h5:α.free.dropLast.length = α.free.length - 1:=List.length_dropLast
   refine .inl ⟨?_,rfl⟩
   show α.free.dropLast.length + 1 = _
   omega
  | none =>
   rw [hl] at h
   simp only at h ⊢
   have h8:α.free = []:=List.getLast?_eq_none_iff.1 hl
   split at h
   ·rename_i hlt
    rw [if_pos hlt]
    have h9:α.free.length = 0:=by rw [h8];rfl
    exact .inr ⟨h9,h9,rfl,hlt⟩
   ·cases h
 omega
theorem aCH {α:AS} (hi:α.Inv) (h:α.next = none):α.len = α.n:=by
 obtain ⟨_,h1,h2⟩:=xN h
 have h3:=hi.len
 have h4:=hi.never
 have h5:α.free.length = 0:=by rw [h1];rfl
 omega
theorem aFi {α:AS} (hi:α.Inv) {c:Nat} (h:α.live c = true):(α.lI c).len + 1 = α.len:=by
 have h1:=hi.len
 have h2:=(aBC hi h).len
 have h3:(α.lI c).free.length = α.free.length + 1:=by simp [lI]
 have h4:(α.lI c).never = α.never:=rfl
 rw [h3,h4] at h2
 omega
theorem vW {α:AS} {c:Nat} (h:α.live c = true):α.xA (c:Int) = α.lI c:=by
 unfold xA
 rw [uQ,h,if_pos rfl,Int.toNat_natCast]
theorem aCw {α β:AS} (h1:β.never = α.never) (h2:β.live = α.live):β.len = α.len:=by unfold len;rw [h1,h2]
end AS
end HL
end Go.Proofs.YtodobkbnmjgkdaaGreat
