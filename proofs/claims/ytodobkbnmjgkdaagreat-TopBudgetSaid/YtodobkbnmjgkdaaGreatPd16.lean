import Derived.Test.YtodobkbnmjgkdaaGreatPd15
namespace Go.Proofs.YtodobkbnmjgkdaaGreat
open Go.RowKit (Below)
set_option linter.unusedVariables false
set_option linter.unusedSimpArgs false
set_option maxRecDepth 100000
namespace HL
namespace AS
theorem Sm.kU {k:Int} {α β:AS} (h:Sm k α β) (c:Nat):Sm k (α.kU c) (β.kU c) :=
 ⟨h.n,h.get,by show (fun c'=>if c' = c then false else β.live c') = _;rw [h.live];rfl,h.never,by show β.free ++ [c] = α.free ++ [c];rw [h.free],h.steps⟩
theorem Sm.nd {k:Int} {α β:AS} (h:Sm k α β) {n i:Nat} {e:cY} (hn:α.Nd n i e):β.Nd n i e :=
 hn.congr (fun f=>by rw [h.get]) (fun f=>by rw [h.get]) (by rw [h.live]) (by rw [h.live])
end AS
section
variable {w0:World} {M F:Mem} {R:VP} {a:Nat} {α:AS}
theorem aA.aJX {A B D E:cW} (h:aA w0 F M (star A (star B (star D E)))):∃ F',aA w0 F' M E∧Mem.le F F'∧∀ M' E',aA w0 F' M' E'→aA w0 F M' (star A (star B (star D E'))):=by
 obtain ⟨F',h1,h2,h3⟩:=h.aJ9
 obtain ⟨F'',h4,h5,h6⟩:=h1.last
 exact ⟨F'',h4,Mem.le_trans h2 h5,fun M' E' h'=>h3 M' _ (h6 M' _ h')⟩
theorem aI1 {Q:cW} {s x:SV} {l m:List Int} (h:aA w0 F M (star (pG s (l.map (Value.int .i64))) Q)) (hx:tN w0 M .i64 x m) (hb:l.length + m.length≤137438953472) {K:VP}
  (hK:∀ M' s',aA w0 F M' (star (pG s' ((l ++ m).map (Value.int .i64))) Q)→K s'.v M'):(aJ PP w0).app #[53,53] 53 [SV.v s,SV.v x] K M:=by
 obtain ⟨F',h1,h2,h3⟩:=h.sl
 exact aKS Tryz.underlying53 W.e3 h2 h1 hx (Mem.le_refl _) hb fun M' s' l1 l2=>hK M' s' (h3 M' s' _ l2 l1)
theorem aA.cells {Q:cW} {s:SV} {l:List Value} (h:aA w0 F M (star (pG s l) Q)):gN w0 M s.a l∧s.n = l.length:=by
 obtain ⟨F',h1,h2,h3⟩:=h.sl
 exact ⟨h1.cells,h1.len⟩
theorem aA.aI3 {Q:cW} {s:SV} {l:List Nat} (h:aA w0 F M (star (pG s ((aU l).map (Value.int .i64))) Q)) (hl:∀ x∈l,x < 1000000) (hm:l.length≤1000000):tN w0 M .i64 s (aU l):=by
 refine h.rdI (fun n hn=>?_) (by simpa [aU] using hm)
 obtain ⟨x,hx,rfl⟩:=List.mem_map.1 hn
 exact aHz (by have:=hl x hx;unfold cM;omega)
theorem q8 (hA:aA w0 F M (aF a α)) {n m i j:Nat} {e g:cY} (h1:α.Nd n i e) (h2:α.Nd m j g) (h:∀ M' β,aA w0 F M' (aF a β)→AS.Sm 6 α β→R (.bool (decide (Bf (i,e) (j,g)))) M'):C PP w0 Id.gW #[.pointer (some ⟨a,0,none⟩),.int .i64 (n:Int),.int .i64 (m:Int)] R M:=by
 apply gW.go
 unfold gW.T aL
 refine eT hA fun M1 hA1=>?_
 rw [show α.fN (n:Int) 6 = (i:Int) from AS.dE (f:=6) h1.ln (by omega) h1.it (AS.cE hA.inv h1.li)]
 simp only [go_sem]
 refine eT hA1 fun M2 hA2=>?_
 rw [show α.tick.fN (m:Int) 6 = (j:Int) from AS.dE (α:=α.tick) (f:=6) h2.ln (by omega) h2.it (AS.cE hA.inv h2.li)]
 simp only [go_sem]
 refine aGJ hA2 fun M3 hA3=>?_
 rw [show α.tick.tick.yC (i:Int) (j:Int) = decide (Bf (i,e) (j,g)) from AS.aFN (α:=α.tick.tick) h1.li h2.li h1.k h1.s h2.k h2.s]
 simp only [go_sem]
 exact h M3 _ hA3 ((((((AS.aN.trans AS.aN).trans AS.aN).trans AS.aN).trans AS.aN).trans AS.aN).mono (by omega))
theorem aAz (hA:aA w0 F M (aF a α)) {i:Nat} (hi:α.live i = true) (h0:α.next = none→∀ M' β,aA w0 F M' (aF a β)→AS.Sm 1 α β→R (.tuple #[.int .i64 (-1),.bool false]) M')
  (h1:∀ n,α.next = some n→∀ M' β,aA w0 F M' (aF a β)→AS.Sm 3 ((α.take.put n 6 i).put i 9 n) β→R (.tuple #[.int .i64 (n:Int),.bool true]) M'):C PP w0 Id.mK #[.pointer (some ⟨a,0,none⟩),.int .i64 (i:Int)] R M:=by
 apply mK.go
 unfold mK.T aL
 refine aFy hA fun M1 hA1=>?_
 cases hnx:α.next with
 | none =>
  rw [show α.uT = -1 from by unfold AS.uT;rw [hnx]]
  rw [(AS.wP hnx).1] at hA1
  simp only [go_sem,Option.isSome_none,mY]
  exact h0 hnx M1 _ hA1 AS.aN
 | some n =>
  obtain ⟨hcn,hcl,hct⟩:=AS.kL hA.inv hnx
  rw [show α.uT = (n:Int) from by unfold AS.uT;rw [hnx]]
  simp only [go_sem,Option.isSome_some,dY]
  have hlv:∀ x,α.take.live x = if x = n then true else α.live x:=by
   intro x;rw [hct];rfl
  refine aAT hA1 (by show α.take.live n = true;rw [hlv,if_pos rfl]) (by show α.take.live i = true;rw [hlv];split;rfl;exact hi) fun M2 β hA2 hs=>?_
  exact h1 n hnx M2 β hA2 (((((AS.aN (α:=α.take)).put n 6 (i:Int)).put i 9 (n:Int)).trans hs).mono (by omega))
theorem aEl (hA:aA w0 F M (aF a α)) {n i:Nat} {e:cY} (h1:α.Nd n i e) (h:∀ M' β,aA w0 F M' (aF a β)→AS.Sm 3 ((α.put i 9 (-1)).kU n) β→R (.int .i64 (i:Int)) M'):C PP w0 Id.lC #[.pointer (some ⟨a,0,none⟩),.int .i64 (n:Int)] R M:=by
 apply lC.go
 unfold lC.T aL
 refine eT hA fun M1 hA1=>?_
 rw [show α.fN (n:Int) 6 = (i:Int) from AS.dE (f:=6) h1.ln (by omega) h1.it (AS.cE hA.inv h1.li)]
 simp only [go_sem]
 refine gV hA1 fun M2 hA2=>?_
 simp only [go_sem]
 rw [show α.tick.lS (i:Int) 9 (-1) = α.tick.put i 9 (-1) from AS.cO (α:=α.tick) (f:=9) h1.li (by omega) _] at hA2
 refine aFs hA2 fun M3 hA3=>?_
 rw [show (α.tick.put i 9 (-1)).tick.vF (n:Int) = (α.tick.put i 9 (-1)).tick.kU n from AS.uL h1.ln] at hA3
 simp only [go_sem]
 exact h M3 _ hA3 ((((((AS.aN (α:=α)).put i 9 (-1)).trans AS.aN).kU n).trans AS.aN).mono (by omega))
inductive Tr (K:Nat→List Int→Prop):List Int→List Nat→Prop
 | nil:Tr K [] []
 | skip {w:List Int} {N:List Nat} (h:Tr K w N):Tr K (w ++ [-1]) N
 | node {w ks:List Int} {n:Nat} {N:List Nat} (hk:K n ks) (h:Tr K (w ++ ks) N):Tr K (w ++ [(n:Int)]) (n::N)
end
end HL
namespace HL
inductive LT where
 | nil
 | node (n i:Nat) (e:cY) (l r:LT)
namespace LT
def root:LT→Int
 | nil => -1
 | node n _ _ _ _=>(n:Int)
def rk:LT→Nat
 | nil=>0
 | node _ _ _ _ r=>rk r + 1
def bW:LT→List cC
 | nil=>[]
 | node _ i e l r=>(i,e)::(bW l ++ bW r)
def aO:LT→List Nat
 | nil=>[]
 | node n _ _ l r=>n::(aO l ++ aO r)
def cells:LT→List Nat
 | nil=>[]
 | node n i _ l r=>n::i::(cells l ++ cells r)
def Ln:LT→Prop
 | nil=>True
 | node _ _ _ l r=>rk r≤rk l∧Ln l∧Ln r
def Od:LT→Prop
 | nil=>True
 | node _ i e l r=>(∀ x∈bW l,Bf (i,e) x)∧(∀ x∈bW r,Bf (i,e) x)∧Od l∧Od r
theorem aCD:∀ {t:LT},Ln t→2 ^ rk t≤(bW t).length + 1
 | nil,_=>by simp [rk,bW]
 | node n i e l r,h=>by
  have h1:=aCD h.2.1
  have h2:=aCD h.2.2
  have h3:2 ^ rk r≤2 ^ rk l:=Nat.pow_le_pow_right (by decide) h.1
  simp only [rk,bW,List.length_cons,List.length_append,Nat.pow_succ]
  omega
theorem kX:∀ (t:LT),(cells t).length = 2 * (bW t).length
 | nil=>rfl
 | node n i e l r=>by simp only [cells,bW,List.length_cons,List.length_append,kX l,kX r];omega
theorem mV:∀ {t:LT} {x:Nat},x∈aO t→x∈cells t
 | nil,x,h=>by cases h
 | node n i e l r,x,h=>by
  simp only [aO,cells,List.mem_cons,List.mem_append] at h ⊢
  rcases h with h | h | h
  ·exact .inl h
  ·exact .inr (.inr (.inl (mV h)))
  ·exact .inr (.inr (.inr (mV h)))
theorem oH:∀ {t:LT} {x:cC},x∈bW t→x.1∈cells t
 | nil,x,h=>by cases h
 | node n i e l r,x,h=>by
  simp only [bW,cells,List.mem_cons,List.mem_append] at h ⊢
  rcases h with h | h | h
  ·exact .inr (.inl (by rw [h]))
  ·exact .inr (.inr (.inl (oH h)))
  ·exact .inr (.inr (.inr (oH h)))
def fA (α:AS):Int→LT→Prop
 | _,nil=>True
 | up,node n i e l r=>α.Nd n i e∧α.get n 0 = up∧α.get n 1 = -1∧α.get n 2 = l.root∧α.get n 3 = r.root∧α.get n 4 = (rk r:Int) + 1∧fA α n l∧fA α n r
theorem fA.congr {α β:AS}:∀ {t:LT} {up:Int},fA α up t→(∀ c∈cells t,∀ f,β.get c f = α.get c f)→(∀ c∈cells t,β.live c = α.live c)→fA β up t
 | nil,_,_,_,_=>trivial
 | node n i e l r,up,h,hg,hl=>by
  obtain ⟨h1,h2,h3,h4,h5,h6,h7,h8⟩:=h
  simp only [cells,List.mem_cons,List.mem_append] at hg hl
  refine ⟨h1.congr (hg n (.inl rfl)) (hg i (.inr (.inl rfl))) (hl n (.inl rfl)) (hl i (.inr (.inl rfl))),?_,?_,?_,?_,?_,?_,?_⟩
  ·rw [hg n (.inl rfl)];exact h2
  ·rw [hg n (.inl rfl)];exact h3
  ·rw [hg n (.inl rfl)];exact h4
  ·rw [hg n (.inl rfl)];exact h5
  ·rw [hg n (.inl rfl)];exact h6
  ·exact h7.congr (fun c hc=>hg c (.inr (.inr (.inl hc)))) (fun c hc=>hl c (.inr (.inr (.inl hc))))
  ·exact h8.congr (fun c hc=>hg c (.inr (.inr (.inr hc)))) (fun c hc=>hl c (.inr (.inr (.inr hc))))
theorem fA.lN {α β:AS} {S:Nat→Prop} {k:Int} {t:LT} {up:Int} (h:fA α up t) (hc:AS.nM S k α β) (hS:∀ c∈cells t,¬ S c):fA β up t :=
 h.congr (fun c hm f=>hc.get c (hS c hm) f) (fun c hm=>by rw [hc.live])
theorem fA.up {α β:AS} {t:LT} {up up':Int} (h:fA α up t) (hn:(cells t).Nodup) (h0:∀ n:Nat,t.root = (n:Int)→β.get n 0 = up') (hg:∀ c∈cells t,∀ f,((c:Int)≠t.root∨f≠0)→β.get c f = α.get c f) (hl:∀ c∈cells t,β.live c = α.live c):fA β up' t:=by
 cases t with
 | nil=>trivial
 | node n i e l r =>
  obtain ⟨h1,h2,h3,h4,h5,h6,h7,h8⟩:=h
  simp only [cells,List.nodup_cons,List.mem_cons,List.mem_append,not_or] at hg hl hn
  have eQ:∀ f,f≠0→β.get n f = α.get n f:=fun f hf=>hg n (.inl rfl) f (.inr hf)
  have hq:∀ c:Nat,c≠n→(c:Int)≠(node n i e l r).root:=fun c hc e=>hc (by simp only [root] at e;omega)
  have hi:∀ f,β.get i f = α.get i f:=fun f=>hg i (.inr (.inl rfl)) f (.inl (hq i (fun e=>hn.1.1 e.symm)))
  refine ⟨⟨(hl n (.inl rfl)).trans h1.ln,(hl i (.inr (.inl rfl))).trans h1.li,(eQ 6 (by decide)).trans h1.it,(hi 9).trans h1.nd,(hi 7).trans h1.k,(hi 8).trans h1.s⟩,h0 n rfl,(eQ 1 (by decide)).trans h3,(eQ 2 (by decide)).trans h4,(eQ 3 (by decide)).trans h5,(eQ 4 (by decide)).trans h6,?_,?_⟩
  ·exact h7.congr (fun c hc f=>hg c (.inr (.inr (.inl hc))) f (.inl (hq c (fun e=>hn.1.2.1 (e▸hc))))) (fun c hc=>hl c (.inr (.inr (.inl hc))))
  ·exact h8.congr (fun c hc f=>hg c (.inr (.inr (.inr hc))) f (.inl (hq c (fun e=>hn.1.2.2 (e▸hc))))) (fun c hc=>hl c (.inr (.inr (.inr hc))))
theorem fA.live {α:AS}:∀ {t:LT} {up:Int},fA α up t→∀ c∈cells t,α.live c = true
 | nil,_,_,c,hc=>by cases hc
 | node n i e l r,up,h,c,hc=>by
  obtain ⟨h1,h2,h3,h4,h5,h6,h7,h8⟩:=h
  simp only [cells,List.mem_cons,List.mem_append] at hc
  rcases hc with rfl | rfl | hc | hc
  ·exact h1.ln
  ·exact h1.li
  ·exact h7.live c hc
  ·exact h8.live c hc
theorem fA.aBV {α:AS} {t:LT} {up:Int} (h:fA α up t):t.root = -1∨∃ y:Nat,t.root = (y:Int)∧α.live y = true:=by
 cases t with
 | nil=>exact .inl rfl
 | node n i e l r=>exact .inr ⟨n,rfl,h.1.ln⟩
theorem iI {t:LT} {n:Nat} (h:t.root = (n:Int)):n∈cells t:=by
 cases t with
 | nil=>simp only [root] at h;omega
 | node m i e l r =>
  simp only [root] at h
  have:m = n:=by omega
  subst this
  simp [cells]
theorem aGQ {t:LT} (h:t.root = -1):t = nil:=by
 cases t with
 | nil=>rfl
 | node m i e l r=>simp only [root] at h;omega
theorem aI5 (t:LT) : -1≤t.root:=by cases t <;> simp only [root] <;> omega
def fx (n i:Nat) (e:cY) (l r:LT):LT:=if rk l < rk r then node n i e r l else node n i e l r
def top:LT→cC
 | nil=>(0,0,0)
 | node _ i e _ _=>(i,e)
def mO:Nat→LT→LT→LT
 | 0,t,_=>t
 | _ + 1,nil,s=>s
 | _ + 1,t,nil=>t
 | k + 1,node n i e l r,node m j f a b=>if Bf (j,f) (i,e) then fx m j f a (mO k b (node n i e l r)) else fx n i e l (mO k r (node m j f a b))
def steps:Nat→LT→LT→Nat
 | 0,_,_=>0
 | _ + 1,nil,_=>0
 | _ + 1,_,nil=>0
 | k + 1,node n i e l r,node m j f a b=>if Bf (j,f) (i,e) then steps k b (node n i e l r) + 1 else steps k r (node m j f a b) + 1
theorem tO (n i:Nat) (e:cY) (l r:LT):(fx n i e l r).root = n:=by unfold fx;split <;> rfl
theorem aA1 (n i:Nat) (e:cY) (l r:LT):rk (fx n i e l r) = min (rk l) (rk r) + 1:=by
 unfold fx;split <;> simp only [rk] <;> omega
theorem vO (n i:Nat) (e:cY) (l r:LT):(bW (fx n i e l r)).Perm ((i,e)::(bW l ++ bW r)):=by
 unfold fx;split
 ·exact List.Perm.cons _ List.perm_append_comm
 ·exact List.Perm.refl _
theorem p6 (n i:Nat) (e:cY) (l r:LT):(cells (fx n i e l r)).Perm (n::i::(cells l ++ cells r)):=by
 unfold fx;split
 ·exact List.Perm.cons _ (List.Perm.cons _ List.perm_append_comm)
 ·exact List.Perm.refl _
theorem aAW {n i:Nat} {e:cY} {l r:LT} (hl:Ln l) (hr:Ln r):Ln (fx n i e l r):=by
 unfold fx;split
 ·exact ⟨by omega,hr,hl⟩
 ·exact ⟨by omega,hl,hr⟩
theorem aCf {n i:Nat} {e:cY} {l r:LT} (hl:Od l) (hr:Od r) (h1:∀ x∈bW l,Bf (i,e) x) (h2:∀ x∈bW r,Bf (i,e) x):Od (fx n i e l r):=by
 unfold fx;split
 ·exact ⟨h2,h1,hr,hl⟩
 ·exact ⟨h1,h2,hl,hr⟩
theorem oX:∀ (k:Nat) (t s:LT),(bW t).length + (bW s).length≤k→(bW (mO k t s)).Perm (bW t ++ bW s)
 | 0,t,s,h=>by
  have:bW s = []:=List.eq_nil_of_length_eq_zero (by omega)
  simp [mO,this]
 | k + 1,nil,s,h=>by simp [mO,bW]
 | k + 1,node n i e l r,nil,h=>by simp [mO,bW]
 | k + 1,node n i e l r,node m j f a b,h=>by
  simp only [bW,List.length_cons,List.length_append] at h
  simp only [mO]
  split
  ·refine (vO _ _ _ _ _).trans ?_
   have h1:=oX k b (node n i e l r) (by simp only [bW,List.length_cons,List.length_append];omega)
   show List.Perm _ (bW (node n i e l r) ++ (j,f)::(bW a ++ bW b))
   refine (List.Perm.cons _ ?_).trans List.perm_middle.symm
   refine (h1.append_left _).trans ?_
   rw [←List.append_assoc]
   exact List.perm_append_comm
  ·refine (vO _ _ _ _ _).trans ?_
   have h1:=oX k r (node m j f a b) (by simp only [bW,List.length_cons,List.length_append];omega)
   show List.Perm _ (((i,e)::(bW l ++ bW r)) ++ _)
   rw [List.cons_append]
   refine List.Perm.cons _ ?_
   rw [List.append_assoc]
   exact h1.append_left _
theorem nK:∀ (k:Nat) (t s:LT),(bW t).length + (bW s).length≤k→(cells (mO k t s)).Perm (cells t ++ cells s)
 | 0,t,s,h=>by
  have:cells s = []:=List.eq_nil_of_length_eq_zero (by rw [kX];omega)
  simp [mO,this]
 | k + 1,nil,s,h=>by simp [mO,cells]
 | k + 1,node n i e l r,nil,h=>by simp [mO,cells]
 | k + 1,node n i e l r,node m j f a b,h=>by
  simp only [bW,List.length_cons,List.length_append] at h
  simp only [mO]
  split
  ·refine (p6 _ _ _ _ _).trans ?_
   have h1:=nK k b (node n i e l r) (by simp only [bW,List.length_cons,List.length_append];omega)
   show List.Perm _ (cells (node n i e l r) ++ m::j::(cells a ++ cells b))
   refine (List.Perm.cons _ ?_).trans List.perm_middle.symm
   refine (List.Perm.cons _ ?_).trans List.perm_middle.symm
   refine (h1.append_left _).trans ?_
   rw [←List.append_assoc]
   exact List.perm_append_comm
  ·refine (p6 _ _ _ _ _).trans ?_
   have h1:=nK k r (node m j f a b) (by simp only [bW,List.length_cons,List.length_append];omega)
   show List.Perm _ ((n::i::(cells l ++ cells r)) ++ _)
   rw [List.cons_append,List.cons_append]
   refine List.Perm.cons _ (List.Perm.cons _ ?_)
   rw [List.append_assoc]
   exact h1.append_left _
theorem uE:∀ (k:Nat) (t s:LT),Ln t→Ln s→Ln (mO k t s)
 | 0,t,s,h,h2=>h
 | k + 1,nil,s,h,h2=>by simpa [mO] using h2
 | k + 1,node n i e l r,nil,h,h2=>by simpa [mO] using h
 | k + 1,node n i e l r,node m j f a b,h,h2=>by
  simp only [mO]
  split
  ·exact aAW h2.2.1 (uE k _ _ h2.2.2 h)
  ·exact aAW h.2.1 (uE k _ _ h.2.2 h2)
theorem tQ:∀ (k:Nat) (t s:LT),(bW t).length + (bW s).length≤k→Od t→Od s→(∀ x∈bW t,∀ y∈bW s,x.1≠y.1)→Od (mO k t s)
 | 0,t,s,_,h,h2,_=>h
 | k + 1,nil,s,_,h,h2,_=>by simpa [mO] using h2
 | k + 1,node n i e l r,nil,_,h,h2,_=>by simpa [mO] using h
 | k + 1,node n i e l r,node m j f a b,hk,h,h2,hd=>by
  simp only [bW,List.length_cons,List.length_append] at hk
  simp only [mO]
  split
  ·rename_i hb
   have hk2:(bW b).length + (bW (node n i e l r)).length≤k:=by simp only [bW,List.length_cons,List.length_append];omega
   refine aCf h2.2.2.1 (tQ k _ _ hk2 h2.2.2.2 h fun x hx y hy=>(hd y hy x (by simp [bW,hx])).symm) h2.1 fun x hx=>?_
   rcases List.mem_append.1 ((oX k b _ hk2).mem_iff.1 hx) with hx | hx
   ·exact h2.2.1 x hx
   ·simp only [bW,List.mem_cons,List.mem_append] at hx
    rcases hx with rfl | hx | hx
    ·exact hb
    ·exact hb.tr (h.1 x hx)
    ·exact hb.tr (h.2.1 x hx)
  ·rename_i hb
   have hk2:(bW r).length + (bW (node m j f a b)).length≤k:=by simp only [bW,List.length_cons,List.length_append];omega
   have hb':Bf (i,e) (j,f):=Bf.tot hb (hd (i,e) (by simp [bW]) (j,f) (by simp [bW])).symm
   refine aCf h.2.2.1 (tQ k _ _ hk2 h.2.2.2 h2 fun x hx y hy=>hd x (by simp [bW,hx]) y hy) h.1 fun x hx=>?_
   rcases List.mem_append.1 ((oX k r _ hk2).mem_iff.1 hx) with hx | hx
   ·exact h.2.1 x hx
   ·simp only [bW,List.mem_cons,List.mem_append] at hx
    rcases hx with rfl | hx | hx
    ·exact hb'
    ·exact hb'.tr (h2.1 x hx)
    ·exact hb'.tr (h2.2.1 x hx)
theorem tA:∀ (k:Nat) (t s:LT),steps k t s≤rk t + rk s
 | 0,t,s=>by simp [steps]
 | k + 1,nil,s=>by simp [steps]
 | k + 1,node n i e l r,nil=>by simp [steps]
 | k + 1,node n i e l r,node m j f a b=>by
  simp only [steps]
  split
  ·have:=tA k b (node n i e l r);simp only [rk] at this ⊢;omega
  ·have:=tA k r (node m j f a b);simp only [rk] at this ⊢;omega
structure Cx where
 n:Nat
 i:Nat
 e:cY
 /-- The node stands to the left. -/
 l:Bool
 o:LT
def Cx.put (c:Cx) (t:LT):LT:=if c.l then node c.n c.i c.e t c.o else node c.n c.i c.e c.o t
def Cx.fx (c:Cx) (t:LT):LT:=if c.l then LT.fx c.n c.i c.e t c.o else LT.fx c.n c.i c.e c.o t
def Cx.rk (c:Cx) (k:Nat):Nat:=(if c.l then LT.rk c.o else k) + 1
def iF:List Cx→LT→LT
 | [],t=>t
 | c::cs,t=>iF cs (c.put t)
def rp:List Cx→LT→LT
 | [],t=>t
 | c::cs,t=>rp cs (c.fx t)
def upc:List Cx→Int
 | [] => -1
 | c::_=>c.n
def yM:List Cx→List cC
 | []=>[]
 | c::cs=>(c.i,c.e)::(bW c.o ++ yM cs)
def aAg:List Cx→List Nat
 | []=>[]
 | c::cs=>c.n::(aO c.o ++ aAg cs)
def fK:List Cx→List Nat
 | []=>[]
 | c::cs=>c.n::c.i::(cells c.o ++ fK cs)
theorem Cx.aA3 (c:Cx) (t:LT):(c.put t).root = c.n:=by unfold put;split <;> rfl
theorem Cx.tO (c:Cx) (t:LT):(c.fx t).root = c.n:=by unfold fx;split <;> exact LT.tO _ _ _ _ _
theorem Cx.aEq (c:Cx) (t:LT):LT.rk (c.put t) = c.rk (LT.rk t):=by
 unfold put Cx.rk
 split
 ·rfl
 ·rfl
theorem Cx.aEX (c:Cx) (t:LT):(bW (c.put t)).Perm ((c.i,c.e)::(bW c.o ++ bW t)):=by
 unfold put;split
 ·exact List.Perm.cons _ List.perm_append_comm
 ·exact List.Perm.refl _
theorem Cx.aJo (c:Cx) (t:LT):(aO (c.put t)).Perm (c.n::(aO c.o ++ aO t)):=by
 unfold put;split
 ·exact List.Perm.cons _ List.perm_append_comm
 ·exact List.Perm.refl _
theorem Cx.aGj (c:Cx) (t:LT):(cells (c.put t)).Perm (c.n::c.i::(cells c.o ++ cells t)):=by
 unfold put;split
 ·exact List.Perm.cons _ (List.Perm.cons _ List.perm_append_comm)
 ·exact List.Perm.refl _
theorem Cx.vO (c:Cx) (t:LT):(bW (c.fx t)).Perm ((c.i,c.e)::(bW c.o ++ bW t)):=by
 unfold fx;split
 ·exact (LT.vO _ _ _ _ _).trans (List.Perm.cons _ List.perm_append_comm)
 ·exact LT.vO _ _ _ _ _
theorem Cx.p6 (c:Cx) (t:LT):(cells (c.fx t)).Perm (c.n::c.i::(cells c.o ++ cells t)):=by
 unfold fx;split
 ·exact (LT.p6 _ _ _ _ _).trans (List.Perm.cons _ (List.Perm.cons _ List.perm_append_comm))
 ·exact LT.p6 _ _ _ _ _
theorem aAu:∀ (cs:List Cx) (t:LT),(bW (iF cs t)).Perm (yM cs ++ bW t)
 | [],t=>List.Perm.refl _
 | c::cs,t=>by
  refine (aAu cs (c.put t)).trans ?_
  refine ((c.aEX t).append_left _).trans ?_
  refine List.perm_middle.trans ?_
  show List.Perm _ ((c.i,c.e)::((bW c.o ++ yM cs) ++ bW t))
  refine List.Perm.cons _ ?_
  rw [←List.append_assoc]
  exact List.perm_append_comm.append_right _
theorem aC9:∀ (cs:List Cx) (t:LT),(aO (iF cs t)).Perm (aAg cs ++ aO t)
 | [],t=>List.Perm.refl _
 | c::cs,t=>by
  refine (aC9 cs (c.put t)).trans ?_
  refine ((c.aJo t).append_left _).trans ?_
  refine List.perm_middle.trans ?_
  show List.Perm _ (c.n::((aO c.o ++ aAg cs) ++ aO t))
  refine List.Perm.cons _ ?_
  rw [←List.append_assoc]
  exact List.perm_append_comm.append_right _
theorem aCm {β:Type} (a b:β) (x y z:List β):(x ++ a::b::(y ++ z)).Perm (a::b::((y ++ x) ++ z)):=by
 refine List.perm_middle.trans (List.Perm.cons _ (List.perm_middle.trans (List.Perm.cons _ ?_)))
 rw [←List.append_assoc]
 exact List.perm_append_comm.append_right _
theorem iZ:∀ (cs:List Cx) (t:LT),(cells (iF cs t)).Perm (fK cs ++ cells t)
 | [],t=>List.Perm.refl _
 | c::cs,t=>(iZ cs (c.put t)).trans (((c.aGj t).append_left _).trans (aCm _ _ _ _ _))
theorem aEo:∀ (cs:List Cx) (t:LT),(bW (rp cs t)).Perm (yM cs ++ bW t)
 | [],t=>List.Perm.refl _
 | c::cs,t=>by
  refine (aEo cs (c.fx t)).trans ?_
  refine ((c.vO t).append_left _).trans ?_
  refine List.perm_middle.trans ?_
  show List.Perm _ ((c.i,c.e)::((bW c.o ++ yM cs) ++ bW t))
  refine List.Perm.cons _ ?_
  rw [←List.append_assoc]
  exact List.perm_append_comm.append_right _
theorem aBm:∀ (cs:List Cx) (t:LT),(cells (rp cs t)).Perm (fK cs ++ cells t)
 | [],t=>List.Perm.refl _
 | c::cs,t=>(aBm cs (c.fx t)).trans (((c.p6 t).append_left _).trans (aCm _ _ _ _ _))
theorem aCj:∀ (cs:List Cx) (t s:LT),cs≠[]→(rp cs t).root = (iF cs s).root
 | [c],t,s,_=>by simp only [rp,iF,Cx.tO,Cx.aA3]
 | c::d::cs,t,s,_=>aCj (d::cs) (c.fx t) (c.put s) (by simp)
theorem find:∀ {t:LT} {i:Nat} {e:cY},(i,e)∈bW t→∃ cs n l r,t = iF cs (node n i e l r)
 | nil,i,e,h=>by cases h
 | node m j f l r,i,e,h=>by
  simp only [bW,List.mem_cons,List.mem_append] at h
  have key:∀ (cs:List Cx) (c:Cx) (s:LT),iF (cs ++ [c]) s = c.put (iF cs s):=by
   intro cs
   induction cs with
   | nil=>intro c s;rfl
   | cons d cs ih=>intro c s;exact ih c (d.put s)
  rcases h with h | h | h
  ·cases h
   exact ⟨[],m,l,r,rfl⟩
  ·obtain ⟨cs,n,a,b,rfl⟩:=find h
   exact ⟨cs ++ [⟨m,j,f,true,r⟩],n,a,b,by rw [key];rfl⟩
  ·obtain ⟨cs,n,a,b,rfl⟩:=find h
   exact ⟨cs ++ [⟨m,j,f,false,l⟩],n,a,b,by rw [key];rfl⟩
def aAh (α:AS):Int→Nat→List Cx→Prop
 | _,_,[]=>True
 | v,k,c::cs=>α.Nd c.n c.i c.e∧α.get c.n 0 = upc cs∧α.get c.n 1 = -1∧α.get c.n (if c.l then 2 else 3) = v∧α.get c.n (if c.l then 3 else 2) = c.o.root∧α.get c.n 4 = (c.rk k:Int)∧fA α c.n c.o∧aAh α c.n (c.rk k) cs
theorem aJH {α:AS} {up:Int} {c:Cx} {t:LT}:fA α up (c.put t)↔(α.Nd c.n c.i c.e∧α.get c.n 0 = up∧α.get c.n 1 = -1∧α.get c.n (if c.l then 2 else 3) = t.root∧α.get c.n (if c.l then 3 else 2) = c.o.root∧α.get c.n 4 = (c.rk (LT.rk t):Int)∧fA α c.n c.o)∧fA α c.n t:=by
 unfold Cx.put Cx.rk
 cases h:c.l
 ·simp only [Bool.false_eq_true,if_false,fA,Int.natCast_add,Int.natCast_one]
  constructor
  ·rintro ⟨h1,h2,h3,h4,h5,h6,h7,h8⟩;exact ⟨⟨h1,h2,h3,h5,h4,h6,h7⟩,h8⟩
  ·rintro ⟨⟨h1,h2,h3,h5,h4,h6,h7⟩,h8⟩;exact ⟨h1,h2,h3,h4,h5,h6,h7,h8⟩
 ·simp only [if_true,fA,Int.natCast_add,Int.natCast_one]
  constructor
  ·rintro ⟨h1,h2,h3,h4,h5,h6,h7,h8⟩;exact ⟨⟨h1,h2,h3,h4,h5,h6,h8⟩,h7⟩
  ·rintro ⟨⟨h1,h2,h3,h4,h5,h6,h8⟩,h7⟩;exact ⟨h1,h2,h3,h4,h5,h6,h7,h8⟩
theorem qZ {α:AS}:∀ {cs:List Cx} {t:LT},fA α (-1) (iF cs t)↔aAh α t.root (LT.rk t) cs∧fA α (upc cs) t
 | [],t=>by simp [iF,aAh,upc]
 | c::cs,t=>by
  show fA α (-1) (iF cs (c.put t))↔_
  rw [qZ,Cx.aA3,Cx.aEq,aJH]
  show _↔(_∧_∧_∧_∧_∧_∧_∧_)∧fA α c.n t
  constructor
  ·rintro ⟨h1,⟨h2,h3,h4,h5,h6,h7,h8⟩,h9⟩;exact ⟨⟨h2,h3,h4,h5,h6,h7,h8,h1⟩,h9⟩
  ·rintro ⟨⟨h2,h3,h4,h5,h6,h7,h8,h1⟩,h9⟩;exact ⟨h1,⟨h2,h3,h4,h5,h6,h7,h8⟩,h9⟩
theorem aAh.congr {α β:AS}:∀ {cs:List Cx} {v:Int} {k:Nat},aAh α v k cs→(∀ c∈fK cs,∀ f,β.get c f = α.get c f)→(∀ c∈fK cs,β.live c = α.live c)→aAh β v k cs
 | [],_,_,_,_,_=>trivial
 | c::cs,v,k,h,hg,hl=>by
  obtain ⟨h1,h2,h3,h4,h5,h6,h7,h8⟩:=h
  simp only [fK,List.mem_cons,List.mem_append] at hg hl
  refine ⟨h1.congr (hg _ (.inl rfl)) (hg _ (.inr (.inl rfl))) (hl _ (.inl rfl)) (hl _ (.inr (.inl rfl))),?_,?_,?_,?_,?_,?_,?_⟩
  ·rw [hg _ (.inl rfl)];exact h2
  ·rw [hg _ (.inl rfl)];exact h3
  ·rw [hg _ (.inl rfl)];exact h4
  ·rw [hg _ (.inl rfl)];exact h5
  ·rw [hg _ (.inl rfl)];exact h6
  ·exact h7.congr (fun c hc=>hg c (.inr (.inr (.inl hc)))) (fun c hc=>hl c (.inr (.inr (.inl hc))))
  ·exact h8.congr (fun c hc=>hg c (.inr (.inr (.inr hc)))) (fun c hc=>hl c (.inr (.inr (.inr hc))))
theorem aAh.lN {α β:AS} {S:Nat→Prop} {j:Int} {cs:List Cx} {v:Int} {k:Nat} (h:aAh α v k cs) (hc:AS.nM S j α β) (hS:∀ c∈fK cs,¬ S c):aAh β v k cs :=
 h.congr (fun c hm f=>hc.get c (hS c hm) f) (fun c hm=>by rw [hc.live])
def LnC:Nat→List Cx→Prop
 | _,[]=>True
 | k,c::cs=>(if c.l then LT.rk c.o≤k else k≤LT.rk c.o)∧Ln c.o∧LnC (c.rk k) cs
theorem aK4 {c:Cx} {t:LT}:Ln (c.put t)↔(if c.l then LT.rk c.o≤LT.rk t else LT.rk t≤LT.rk c.o)∧Ln c.o∧Ln t:=by
 unfold Cx.put
 split <;> simp only [Ln] <;> constructor
 ·rintro ⟨h1,h2,h3⟩;exact ⟨h1,h3,h2⟩
 ·rintro ⟨h1,h2,h3⟩;exact ⟨h1,h3,h2⟩
theorem wH:∀ {cs:List Cx} {t:LT},Ln (iF cs t)↔LnC (LT.rk t) cs∧Ln t
 | [],t=>by simp [iF,LnC]
 | c::cs,t=>by
  show Ln (iF cs (c.put t))↔_
  rw [wH,aK4,Cx.aEq]
  simp only [LnC]
  constructor
  ·rintro ⟨h1,h2,h3,h4⟩;exact ⟨⟨h2,h3,h1⟩,h4⟩
  ·rintro ⟨⟨h2,h3,h1⟩,h4⟩;exact ⟨h1,h2,h3,h4⟩
def LnO:List Cx→Prop
 | []=>True
 | c::cs=>Ln c.o∧LnO cs
theorem LnC.o:∀ {cs:List Cx} {k:Nat},LnC k cs→LnO cs
 | [],_,_=>trivial
 | c::cs,k,h=>⟨h.2.1,LnC.o h.2.2⟩
theorem Cx.aAW {c:Cx} {t:LT} (h1:Ln c.o) (h2:Ln t):Ln (c.fx t):=by
 unfold fx;split
 ·exact LT.aAW h2 h1
 ·exact LT.aAW h1 h2
theorem aH6:∀ {cs:List Cx} {t:LT},LnO cs→Ln t→Ln (rp cs t)
 | [],t,_,h=>h
 | c::cs,t,h1,h=>by
  show Ln (rp cs (c.fx t))
  exact aH6 (cs:=cs) h1.2 (Cx.aAW h1.1 h)
theorem Cx.aA1 {c:Cx} {t:LT}:LT.rk (c.fx t) = min (LT.rk t) (LT.rk c.o) + 1:=by
 unfold fx;split
 ·exact LT.aA1 _ _ _ _ _
 ·rw [LT.aA1,Nat.min_comm]
theorem aKZ {c:Cx} {k:Nat} (h:if c.l then LT.rk c.o≤k else k≤LT.rk c.o):c.rk k = min k (LT.rk c.o) + 1:=by
 unfold Cx.rk
 split at h
 ·rename_i hl;rw [if_pos hl];omega
 ·rename_i hl;rw [if_neg hl];omega
theorem aKW {c:Cx} {t:LT} (h:if c.l then LT.rk c.o≤LT.rk t else LT.rk t≤LT.rk c.o):c.fx t = c.put t:=by
 unfold Cx.fx Cx.put LT.fx
 split
 ·rename_i hl
  rw [if_pos hl] at h
  rw [if_neg (by omega)]
 ·rename_i hl
  rw [if_neg hl] at h
  rw [if_neg (by omega)]
theorem aEY:∀ {cs:List Cx} {t:LT},LnC (LT.rk t) cs→rp cs t = iF cs t
 | [],t,_=>rfl
 | c::cs,t,h=>by
  show rp cs (c.fx t) = iF cs (c.put t)
  rw [aKW h.1]
  exact aEY (by rw [Cx.aEq];exact h.2.2)
def Abv (x:cC) (cs:List Cx):Prop:=∀ c∈cs,Bf (c.i,c.e) x
def OdC:List Cx→Prop
 | []=>True
 | c::cs=>Od c.o∧(∀ x∈bW c.o,Bf (c.i,c.e) x∧Abv x cs)∧Abv (c.i,c.e) cs∧OdC cs
theorem aKe {c:Cx} {t:LT}:Od (c.put t)↔(Od c.o∧∀ x∈bW c.o,Bf (c.i,c.e) x)∧Od t∧∀ x∈bW t,Bf (c.i,c.e) x:=by
 unfold Cx.put
 split <;> simp only [Od] <;> constructor
 ·rintro ⟨h1,h2,h3,h4⟩;exact ⟨⟨h4,h2⟩,h3,h1⟩
 ·rintro ⟨⟨h4,h2⟩,h3,h1⟩;exact ⟨h1,h2,h3,h4⟩
 ·rintro ⟨h1,h2,h3,h4⟩;exact ⟨⟨h3,h1⟩,h4,h2⟩
 ·rintro ⟨⟨h3,h1⟩,h4,h2⟩;exact ⟨h1,h2,h3,h4⟩
theorem Cx.aCf {c:Cx} {t:LT} (h1:Od c.o) (h2:∀ x∈bW c.o,Bf (c.i,c.e) x) (h3:Od t) (h4:∀ x∈bW t,Bf (c.i,c.e) x):Od (c.fx t):=by
 unfold fx;split
 ·exact LT.aCf h3 h1 h4 h2
 ·exact LT.aCf h1 h3 h2 h4
theorem aCY:∀ {cs:List Cx} {t:LT},Od (iF cs t)↔OdC cs∧Od t∧∀ x∈bW t,Abv x cs
 | [],t=>by simp [iF,OdC,Abv]
 | c::cs,t=>by
  show Od (iF cs (c.put t))↔_
  rw [aCY,aKe]
  have hm:∀ x,x∈bW (c.put t)↔x = (c.i,c.e)∨x∈bW c.o∨x∈bW t:=fun x=>by rw [(c.aEX t).mem_iff];simp
  simp only [OdC,hm]
  constructor
  ·rintro ⟨h1,⟨⟨h2,h3⟩,h4,h5⟩,h6⟩
   refine ⟨⟨h2,fun x hx=>⟨h3 x hx,h6 x (.inr (.inl hx))⟩,h6 _ (.inl rfl),h1⟩,h4,fun x hx=>?_⟩
   intro d hd
   rcases List.mem_cons.1 hd with rfl | hd
   ·exact h5 x hx
   ·exact h6 x (.inr (.inr hx)) d hd
  ·rintro ⟨⟨h2,h3,h4,h1⟩,h5,h6⟩
   refine ⟨h1,⟨⟨h2,fun x hx=>(h3 x hx).1⟩,h5,fun x hx=>h6 x hx c List.mem_cons_self⟩,fun x hx=>?_⟩
   rcases hx with rfl | hx | hx
   ·exact h4
   ·exact (h3 x hx).2
   ·exact fun d hd=>h6 x hx d (List.mem_cons_of_mem _ hd)
theorem aHI:∀ {cs:List Cx} {t:LT},OdC cs→Od t→(∀ x∈bW t,Abv x cs)→Od (rp cs t)
 | [],t,_,h,_=>h
 | c::cs,t,⟨h1,h2,h3,h4⟩,h5,h6=>by
  show Od (rp cs (c.fx t))
  refine aHI (cs:=cs) h4 (Cx.aCf h1 (fun x hx=>(h2 x hx).1) h5 fun x hx=>h6 x hx c List.mem_cons_self) fun x hx=>?_
  have hx':=(c.vO t).mem_iff.1 hx
  simp only [List.mem_cons,List.mem_append] at hx'
  rcases hx' with rfl | hx' | hx'
  ·exact h3
  ·exact (h2 x hx').2
  ·exact fun d hd=>h6 x hx' d (List.mem_cons_of_mem _ hd)
end LT
end HL
namespace HL
namespace LT
structure Fr where
 n:Nat
 i:Nat
 e:cY
 l:LT
def wk:Nat→LT→LT→List Fr × LT
 | 0,t,_=>([],t)
 | _ + 1,nil,s=>([],s)
 | _ + 1,t,nil=>([],t)
 | k + 1,node n i e l r,node m j f a b=>if Bf (j,f) (i,e) then (⟨m,j,f,a⟩::(wk k b (node n i e l r)).1,(wk k b (node n i e l r)).2) else (⟨n,i,e,l⟩::(wk k r (node m j f a b)).1,(wk k r (node m j f a b)).2)
def upF (p:List Fr) (u:LT):LT:=p.foldr (fun f m=>fx f.n f.i f.e f.l m) u
def Fr.cells (f:Fr):List Nat:=f.n::f.i::LT.cells f.l
def qG (p:List Fr):List Nat:=p.flatMap Fr.cells
structure aF3 (α:AS) (f:Fr):Prop where
 nd:α.Nd f.n f.i f.e
 d:α.get f.n 1 = -1
 l:α.get f.n 2 = f.l.root
 r:fA α f.n f.l
theorem aF3.lN {α β:AS} {S:Nat→Prop} {k:Int} {f:Fr} (h:aF3 α f) (hc:AS.nM S k α β) (hS:∀ c∈f.cells,¬ S c):aF3 β f:=by
 have hn:=hS f.n (by simp [Fr.cells])
 have hi:=hS f.i (by simp [Fr.cells])
 exact ⟨h.nd.congr (hc.get _ hn) (hc.get _ hi) (by rw [hc.live]) (by rw [hc.live]),(hc.get _ hn 1).trans h.d,(hc.get _ hn 2).trans h.l,h.r.lN hc fun c hm=>hS c (by simp [Fr.cells,hm])⟩
theorem aCA:∀ (k:Nat) (t s:LT),mO k t s = upF (wk k t s).1 (wk k t s).2
 | 0,t,s=>rfl
 | k + 1,nil,s=>by simp [mO,wk,upF]
 | k + 1,node n i e l r,nil=>by simp [mO,wk,upF]
 | k + 1,node n i e l r,node m j f a b=>by
  simp only [mO,wk]
  split
  ·rw [aCA k];rfl
  ·rw [aCA k];rfl
theorem xE:∀ (k:Nat) (t s:LT),(wk k t s).1.length = steps k t s
 | 0,t,s=>rfl
 | k + 1,nil,s=>by simp [steps,wk]
 | k + 1,node n i e l r,nil=>by simp [steps,wk]
 | k + 1,node n i e l r,node m j f a b=>by
  simp only [steps,wk]
  split
  ·simp only [List.length_cons,xE k]
  ·simp only [List.length_cons,xE k]
theorem yJ:∀ (k:Nat) (t s:LT),(bW t).length + (bW s).length≤k→(qG (wk k t s).1 ++ cells (wk k t s).2).Perm (cells t ++ cells s)
 | 0,t,s,h=>by
  have:cells s = []:=List.eq_nil_of_length_eq_zero (by rw [kX];omega)
  simp [wk,qG,this]
 | k + 1,nil,s,h=>by simp [wk,qG,cells]
 | k + 1,node n i e l r,nil,h=>by simp [wk,qG,cells]
 | k + 1,node n i e l r,node m j f a b,h=>by
  simp only [bW,List.length_cons,List.length_append] at h
  simp only [wk]
  split
  ·have h1:=yJ k b (node n i e l r) (by simp only [bW,List.length_cons,List.length_append];omega)
   show List.Perm (m::j::(cells a ++ qG (wk k b (node n i e l r)).1) ++ cells (wk k b (node n i e l r)).2) (cells (node n i e l r) ++ m::j::(cells a ++ cells b))
   rw [List.cons_append,List.cons_append]
   refine (List.Perm.cons _ ?_).trans List.perm_middle.symm
   refine (List.Perm.cons _ ?_).trans List.perm_middle.symm
   rw [List.append_assoc]
   refine (h1.append_left _).trans ?_
   rw [←List.append_assoc]
   exact List.perm_append_comm
  ·have h1:=yJ k r (node m j f a b) (by simp only [bW,List.length_cons,List.length_append];omega)
   show List.Perm (n::i::(cells l ++ qG (wk k r (node m j f a b)).1) ++ cells (wk k r (node m j f a b)).2) (n::i::(cells l ++ cells r) ++ cells (node m j f a b))
   rw [List.cons_append,List.cons_append,List.cons_append,List.cons_append]
   refine List.Perm.cons _ (List.Perm.cons _ ?_)
   rw [List.append_assoc,List.append_assoc]
   exact h1.append_left _
theorem aEM {α:AS}:∀ (k:Nat) (t s:LT) {u v:Int},fA α u t→fA α v s→(∀ f∈(wk k t s).1,aF3 α f)∧∃ x,fA α x (wk k t s).2
 | 0,t,s,u,v,h,_=>⟨by simp [wk],u,h⟩
 | k + 1,nil,s,u,v,_,h=>⟨by simp [wk],v,by simpa [wk] using h⟩
 | k + 1,node n i e l r,nil,u,v,h,_=>⟨by simp [wk],u,by simpa [wk] using h⟩
 | k + 1,node n i e l r,node m j f a b,u,v,h,h2=>by
  simp only [wk]
  split
  ·obtain ⟨g1,g2⟩:=aEM k b (node n i e l r) h2.2.2.2.2.2.2.2 h
   refine ⟨fun x hx=>?_,g2⟩
   rcases List.mem_cons.1 hx with rfl | hx
   ·exact ⟨h2.1,h2.2.2.1,h2.2.2.2.1,h2.2.2.2.2.2.2.1⟩
   ·exact g1 x hx
  ·obtain ⟨g1,g2⟩:=aEM k r (node m j f a b) h.2.2.2.2.2.2.2 h2
   refine ⟨fun x hx=>?_,g2⟩
   rcases List.mem_cons.1 hx with rfl | hx
   ·exact ⟨h.1,h.2.2.1,h.2.2.2.1,h.2.2.2.2.2.2.1⟩
   ·exact g1 x hx
theorem yX {t:LT} {n:Nat} (h:t.root = (n:Int)):n∈aO t:=by
 cases t with
 | nil=>simp only [root] at h;omega
 | node m i e l r =>
  simp only [root] at h
  have:m = n:=by omega
  subst this
  simp [aO]
theorem aCS:∀ (k:Nat) (t s:LT),(∀ f∈(wk k t s).1,f.n∈aO t∨f.n∈aO s)∧∀ c:Nat,(wk k t s).2.root = (c:Int)→c∈aO t∨c∈aO s
 | 0,t,s=>⟨by simp [wk],fun c hc=>.inl (yX hc)⟩
 | k + 1,nil,s=>⟨by simp [wk],fun c hc=>.inr (yX (by simpa [wk] using hc))⟩
 | k + 1,node n i e l r,nil=>⟨by simp [wk],fun c hc=>.inl (yX (by simpa [wk] using hc))⟩
 | k + 1,node n i e l r,node m j f a b=>by
  simp only [wk]
  split
  ·obtain ⟨g1,g2⟩:=aCS k b (node n i e l r)
   refine ⟨fun x hx=>?_,fun c hc=>?_⟩
   ·rcases List.mem_cons.1 hx with rfl | hx
    ·exact .inr (by simp [aO])
    ·rcases g1 x hx with h | h
     ·exact .inr (by simp [aO,h])
     ·exact .inl h
   ·rcases g2 c hc with h | h
    ·exact .inr (by simp [aO,h])
    ·exact .inl h
  ·obtain ⟨g1,g2⟩:=aCS k r (node m j f a b)
   refine ⟨fun x hx=>?_,fun c hc=>?_⟩
   ·rcases List.mem_cons.1 hx with rfl | hx
    ·exact .inl (by simp [aO])
    ·rcases g1 x hx with h | h
     ·exact .inl (by simp [aO,h])
     ·exact .inr h
   ·rcases g2 c hc with h | h
    ·exact .inl (by simp [aO,h])
    ·exact .inr h
theorem aHK:∀ (k:Nat) (t s:LT),(bW t).length + (bW s).length≤k→(t≠nil∨s≠nil)→(wk k t s).2≠nil
 | 0,t,s,h,h2=>by
  cases t with
  | node n i e l r=>simp only [bW,List.length_cons] at h;omega
  | nil =>
   cases s with
   | node n i e l r=>simp only [bW,List.length_cons] at h;omega
   | nil=>rcases h2 with h2 | h2 <;> exact absurd rfl h2
 | k + 1,nil,s,h,h2=>by
  rcases h2 with h2 | h2
  ·exact absurd rfl h2
  ·simpa [wk] using h2
 | k + 1,node n i e l r,nil,h,h2=>by simp [wk]
 | k + 1,node n i e l r,node m j f a b,h,h2=>by
  simp only [bW,List.length_cons,List.length_append] at h
  simp only [wk]
  split
  ·exact aHK k _ _ (by simp only [bW,List.length_cons,List.length_append];omega) (.inr (by simp))
  ·exact aHK k _ _ (by simp only [bW,List.length_cons,List.length_append];omega) (.inr (by simp))
theorem wY:∀ (t:LT),rk t≤(bW t).length
 | nil=>Nat.le_refl _
 | node n i e l r=>by have:=wY r;simp only [rk,bW,List.length_cons,List.length_append];omega
end LT
section
variable {w0:World} {M F:Mem} {R:VP} {a:Nat} {α:AS}
open Go.Proofs.YtodobkbnmjgkdaaGreat.HL.LT
theorem aAI (hA:aA w0 F M (aF a α)) {t:LT} {up:Int} (ht:fA α up t) (h:∀ M' β,aA w0 F M' (aF a β)→AS.Sm 1 α β→R (.int .i64 (rk t:Int)) M'):C PP w0 Id.nS #[.pointer (some ⟨a,0,none⟩),.int .i64 t.root] R M:=by
 apply nS.go
 unfold nS.T aL
 cases t with
 | nil =>
  simp only [root,fB,if_true]
  exact h M α hA (AS.Sm.refl.mono (by omega))
 | node n i e l r =>
  simp only [root,fB]
  rw [if_neg (by omega)]
  refine qF hA fun M1 hA1=>?_
  rw [show α.jN (n:Int) 4 = α.get n 4 from AS.iN (f:=4) ht.1.ln (by omega),ht.2.2.2.2.2.1]
  simp only [go_sem]
  exact h M1 _ hA1 AS.aN
theorem zL (hA:aA w0 F M (aF a α)) {n i:Nat} {e:cY} {l r:LT} (hN:α.Nd n i e) (hd:α.get n 1 = -1) (e2:α.get n 2 = l.root) (e3:α.get n 3 = r.root) (hl:fA α n l) (hr:fA α n r) (hnl:n ∉ cells l) (hnr:n ∉ cells r) (hni:i≠n) (kl:rk l≤1000000) (kr:rk r≤1000000)
  (h:∀ M' β,aA w0 F M' (aF a β)→fA β (α.get n 0) (fx n i e l r)→AS.nM (· = n) 8 α β→R (.bool (α.get n 4 != ((rk (fx n i e l r):Nat):Int))) M'):C PP w0 Id.jD #[.pointer (some ⟨a,0,none⟩),.int .i64 (n:Int)] R M:=by
 apply jD.go
 intro aB H
 unfold jD.T aL
 have hI:=hA.inv
 refine eT hA fun M1 hA1=>?_
 rw [show α.fN (n:Int) 2 = l.root from AS.j5 hI (f:=2) hN.ln (by omega) e2 hl.aBV]
 simp only [go_sem]
 refine eT hA1 fun M2 hA2=>?_
 rw [show α.tick.fN (n:Int) 3 = r.root from AS.j5 (α:=α.tick) (AS.p4 hI) (f:=3) hN.ln (by omega) e3 hr.aBV]
 simp only [go_sem]
 have s2:AS.Sm 2 α α.tick.tick:=(AS.aN.trans AS.aN).mono (by omega)
 refine aAI hA2 (hl.lN s2.lN (S:=fun _=>False) (fun _ _ h=>h)) fun M3 β3 hA3 s3=>?_
 simp only [go_sem]
 refine aAI hA3 (hr.lN (s2.trans s3).lN (S:=fun _=>False) (fun _ _ h=>h)) fun M4 β4 hA4 s4=>?_
 have s:AS.Sm 4 α β4:=((s2.trans s3).trans s4).mono (by omega)
 have hN4:β4.Nd n i e:=s.nd hN
 simp only [go_sem,eK]
 have fin:∀ (M5:Mem) (γ:AS) (low:Nat),low≤1000000→aA w0 F M5 (aF a γ)→γ.Nd n i e→AS.nM (· = n) 6 α γ→γ.get n 4 = α.get n 4→low + 1 = rk (fx n i e l r) →
   (∀ β,AS.Sm 2 (γ.put n 4 ((low:Int) + 1)) β→fA β (α.get n 0) (fx n i e l r))→jD.J1 aB (some ⟨a,0,none⟩) (n:Int) (low:Int) M5:=by
  intro M5 γ low hlow hA5 hN5 hc5 h45 hfx hrep
  refine Eq.mpr (H.J1 ..) ?_
  unfold jD.J1.T aL
  refine qF hA5 fun M6 hA6=>?_
  rw [show γ.jN (n:Int) 4 = γ.get n 4 from AS.iN (f:=4) hN5.ln (by omega),h45]
  simp only [go_sem]
  refine gV hA6 fun M7 hA7=>?_
  simp only [go_sem]
  rw [bC (by omega)] at hA7 ⊢
  rw [show γ.tick.lS (n:Int) 4 ((low:Int) + 1) = γ.tick.put n 4 ((low:Int) + 1) from AS.cO (α:=γ.tick) (f:=4) hN5.ln (by omega) _] at hA7
  have s7:AS.Sm 2 (γ.put n 4 ((low:Int) + 1)) (γ.tick.put n 4 ((low:Int) + 1)).tick:=(((AS.aN (α:=γ)).put n 4 _).trans AS.aN).mono (by omega)
  have hh:=h M7 _ hA7 (hrep _ s7) (((hc5.put rfl).trans s7.lN).mono (fun _ h=>h) (by omega))
  rw [←hfx] at hh
  rw [show ((low + 1:Nat):Int) = (low:Int) + 1 from by omega] at hh
  exact hh
 split
 ·rename_i hlt
  have hlt':rk l < rk r:=by omega
  refine gV hA4 fun M5 hA5=>?_
  simp only [go_sem]
  rw [show β4.lS (n:Int) 2 r.root = β4.put n 2 r.root from AS.cO (f:=2) hN4.ln (by omega) _] at hA5
  refine gV hA5 fun M6 hA6=>?_
  simp only [go_sem]
  rw [show (β4.put n 2 r.root).tick.lS (n:Int) 3 l.root = (β4.put n 2 r.root).tick.put n 3 l.root from AS.cO (α:=(β4.put n 2 r.root).tick) (f:=3) hN4.ln (by omega) _] at hA6
  have c6:AS.nM (· = n) 6 α (((β4.put n 2 r.root).tick.put n 3 l.root).tick):=(((((s.lN (S:=(· = n))).put rfl).tick).put rfl).tick).mono (fun _ h=>h) (by omega)
  have s6:AS.Sm 2 ((β4.put n 2 r.root).put n 3 l.root) (((β4.put n 2 r.root).tick.put n 3 l.root).tick):=(((AS.aN (α:=β4.put n 2 r.root)).put n 3 _).trans AS.aN).mono (by omega)
  refine fin M6 _ (rk l) kl hA6 ⟨hN4.ln,hN4.li,?_,?_,?_,?_⟩ c6 ?_ ?_ fun β hβ=>?_
  ·rw [s6.get,AS.eN,if_neg (by omega),AS.eN,if_neg (by omega)];exact hN4.it
  ·rw [s6.get,AS.eN,if_neg (by omega),AS.eN,if_neg (by omega)];exact hN4.nd
  ·rw [s6.get,AS.eN,if_neg (by omega),AS.eN,if_neg (by omega)];exact hN4.k
  ·rw [s6.get,AS.eN,if_neg (by omega),AS.eN,if_neg (by omega)];exact hN4.s
  ·rw [s6.get,AS.eN,if_neg (by omega),AS.eN,if_neg (by omega),s.get]
  ·rw [aA1];omega
  ·unfold fx
   rw [if_pos hlt']
   have cβ:AS.nM (· = n) 8 α β:=((c6.put rfl).trans hβ.lN).mono (fun _ h=>h) (by omega)
   have g:∀ f,f≠2→f≠3→f≠4→β.get n f = α.get n f:=fun f h2 h3 h4=>by
    rw [hβ.get,AS.eN,if_neg (by omega),s6.get,AS.eN,if_neg (by omega),AS.eN,if_neg (by omega),s.get]
   have gi:∀ f,β.get i f = α.get i f:=cβ.get i hni
   refine ⟨⟨by rw [cβ.live];exact hN.ln,by rw [cβ.live];exact hN.li,(g 6 (by omega) (by omega) (by omega)).trans hN.it,(gi 9).trans hN.nd,(gi 7).trans hN.k,(gi 8).trans hN.s⟩,g 0 (by omega) (by omega) (by omega),(g 1 (by omega) (by omega) (by omega)).trans hd,?_,?_,?_,hr.lN cβ (fun c hc e=>hnr (e▸hc)),hl.lN cβ (fun c hc e=>hnl (e▸hc))⟩
   ·rw [hβ.get,AS.eN,if_neg (by omega),s6.get,AS.eN,if_neg (by omega),AS.eN,if_pos ⟨rfl,rfl⟩]
   ·rw [hβ.get,AS.eN,if_neg (by omega),s6.get,AS.eN,if_pos ⟨rfl,rfl⟩]
   ·rw [hβ.get,AS.eN,if_pos ⟨rfl,rfl⟩]
 ·rename_i hlt
  have hlt':¬ rk l < rk r:=by omega
  refine fin M4 _ (rk r) kr hA4 hN4 (s.lN.mono (fun _ h=>h) (by omega)) (by rw [s.get]) (by rw [aA1];omega) fun β hβ=>?_
  unfold fx
  rw [if_neg hlt']
  have cβ:AS.nM (· = n) 8 α β:=(((s.lN (S:=(· = n))).put rfl).trans hβ.lN).mono (fun _ h=>h) (by omega)
  have g:∀ f,f≠4→β.get n f = α.get n f:=fun f h4=>by
   rw [hβ.get,AS.eN,if_neg (by omega),s.get]
  have gi:∀ f,β.get i f = α.get i f:=cβ.get i hni
  refine ⟨⟨by rw [cβ.live];exact hN.ln,by rw [cβ.live];exact hN.li,(g 6 (by omega)).trans hN.it,(gi 9).trans hN.nd,(gi 7).trans hN.k,(gi 8).trans hN.s⟩,g 0 (by omega),(g 1 (by omega)).trans hd,(g 2 (by omega)).trans e2,(g 3 (by omega)).trans e3,?_,hl.lN cβ (fun c hc e=>hnl (e▸hc)),hr.lN cβ (fun c hc e=>hnr (e▸hc))⟩
  rw [hβ.get,AS.eN,if_pos ⟨rfl,rfl⟩]
theorem aKt {β γ:AS} {f:Fr} {m:LT} {um:Int} {tp:Nat} (hf:aF3 β f) (hm:fA β um m) (hr:m.root = (tp:Int)) (hn:(f.cells ++ cells m).Nodup) (hs:AS.Sm 2 ((β.put f.n 3 m.root).put tp 0 (f.n:Int)) γ) :
  γ.Nd f.n f.i f.e∧γ.get f.n 1 = -1∧γ.get f.n 2 = f.l.root∧γ.get f.n 3 = m.root∧γ.get f.n 0 = β.get f.n 0∧fA γ f.n f.l∧fA γ f.n m:=by
 simp only [Fr.cells,List.cons_append,List.nodup_cons,List.mem_cons,List.mem_append,not_or] at hn
 obtain ⟨⟨a1,a2,a3⟩,⟨b1,b2⟩,hn2⟩:=hn
 obtain ⟨_,hnm,hdis⟩:=List.nodup_append.1 hn2
 have htm:tp∈cells m:=iI hr
 have e1:f.n≠tp:=fun e=>a3 (e▸htm)
 have e2:f.i≠tp:=fun e=>b2 (e▸htm)
 have g:∀ c f',γ.get c f' = if c = tp∧f' = 0 then (f.n:Int) else if c = f.n∧f' = 3 then m.root else β.get c f':=fun c f'=>by rw [hs.get];rfl
 have gl:∀ c,γ.live c = β.live c:=fun c=>by rw [hs.live];rfl
 have gn:∀ f',f'≠3→γ.get f.n f' = β.get f.n f':=fun f' h3=>by rw [g,if_neg (fun e=>e1 e.1),if_neg (fun e=>h3 e.2)]
 have gi:∀ f',γ.get f.i f' = β.get f.i f':=fun f'=>by rw [g,if_neg (fun e=>e2 e.1),if_neg (fun e=>a1 e.1.symm)]
 refine ⟨⟨(gl _).trans hf.nd.ln,(gl _).trans hf.nd.li,(gn 6 (by omega)).trans hf.nd.it,(gi 9).trans hf.nd.nd,(gi 7).trans hf.nd.k,(gi 8).trans hf.nd.s⟩,(gn 1 (by omega)).trans hf.d,(gn 2 (by omega)).trans hf.l,?_,gn 0 (by omega),?_,?_⟩
 ·rw [g,if_neg (fun e=>e1 e.1),if_pos ⟨rfl,rfl⟩]
 ·refine hf.r.congr (fun c hc f'=>?_) (fun c _=>gl c)
  rw [g,if_neg (fun e:c = tp∧f' = 0=>hdis c hc tp htm e.1),if_neg (fun e:c = f.n∧f' = 3=>a2 (e.1▸hc))]
 ·refine hm.up hnm (fun n hn=>?_) (fun c hc f' h=>?_) (fun c _=>gl c)
  ·have:n = tp:=by omega
   rw [g,if_pos ⟨this,rfl⟩]
  ·rw [g,if_neg (fun e:c = tp∧f' = 0=>by rcases h with h | h;exact h (by rw [hr,e.1]);exact h e.2),if_neg (fun e:c = f.n∧f' = 3=>a3 (e.1▸hc))]
theorem aLt (n i:Nat) (e:cY) (l r:LT):fx n i e l r≠nil:=by
 unfold fx;split <;> simp
theorem rF (hA:aA w0 F M (aF a α)) {t s:LT} {ut us:Int} (ht:fA α ut t) (hs:fA α us s) (hn:(cells t ++ cells s).Nodup) {k:Nat} (hk:(bW t).length + (bW s).length≤k)
  (h:∀ M' β,aA w0 F M' (aF a β)→fA β (-1) (mO k t s)→AS.nM (fun c=>c∈aO t∨c∈aO s) (17 * (rk t + rk s) + 1) α β→R (.int .i64 (mO k t s).root) M'):C PP w0 Id.bD #[.pointer (some ⟨a,0,none⟩),.int .i64 t.root,.int .i64 s.root] R M:=by
 apply bD.go
 intro aB H
 unfold bD.T aL
 have hI:=hA.inv
 rw [fB]
 split
 ·rename_i he
  have hnil:t = nil∧s = nil:=by
   cases t with
   | nil=>exact ⟨rfl,aGQ he.symm⟩
   | node n i e l r =>
    exfalso
    have h1:n∈cells (node n i e l r):=by simp [cells]
    have h2:n∈cells s:=iI he.symm
    exact (List.nodup_append.1 hn).2.2 n h1 n h2 rfl
  obtain ⟨rfl,rfl⟩:=hnil
  have e:mO k nil nil = nil:=by cases k <;> rfl
  rw [e] at h
  exact h M α hA trivial (AS.nM.refl.mono (fun _ h=>h) (by simp [rk]))
 ·rename_i eQ
  have hnn:t≠nil∨s≠nil:=by
   cases t with
   | nil=>exact .inr fun e=>eQ (by rw [e])
   | node n i e l r=>exact .inl (by simp)
  have hlive:∀ c∈cells t ++ cells s,α.live c = true:=fun c hc=>by
   rcases List.mem_append.1 hc with hc | hc
   ·exact ht.live c hc
   ·exact hs.live c hc
  have hclen:=mT α.n _ hn fun x hx=>AS.cE hI (hlive x hx)
  have hn65:=hI.n
  rw [List.length_append,kX,kX] at hclen
  have up:∀ (q done:List Fr) (m:LT) (um:Int) (sP:SV) (F':Mem) (M':Mem) (β:AS) (tp:Nat),Mem.le F F'→(wk k t s).1 = q ++ done→m = upF done (wk k t s).2→m.root = (tp:Int)→tN w0 F' .i64 sP (aU ((wk k t s).1.map (·.n)))→aA w0 F' M' (aF a β)→(∀ M'' P,aA w0 F' M'' P→aA w0 F M'' P) →
    (∀ f∈q,aF3 β f)→fA β um m→(qG q ++ cells m).Nodup→(tp∈aO t∨tp∈aO s)→rk m≤1000000→AS.nM (fun c=>c∈aO t∨c∈aO s) (7 * ((wk k t s).1.length:Int) + 10 * (done.length:Int)) α β →
    ∀ kk,q.length < kk→bD.L3 aB kk (some ⟨a,0,none⟩) sP (tp:Int) ((q.length:Int) - 1) M':=by
   intro q
   induction hq:q.length generalizing q with
   | zero =>
    intro done m um sP F' M' β tp hle hqd hm hr hP hB hfb hf hrep fS htp hrk hc kk hkk
    obtain ⟨kk,rfl⟩:∃ j,kk = j + 1:=⟨kk - 1,by omega⟩
    have hq0:q = []:=List.eq_nil_of_length_eq_zero hq
    subst hq0
    refine Eq.mpr (H.L3 ..) ?_
    unfold bD.L3.T aL
    rw [eK,if_neg (by omega)]
    have htl:β.live tp = true:=hrep.live tp (iI hr)
    refine gV hB fun M2 hB2=>?_
    rw [show β.lS (tp:Int) 0 (-1) = β.put tp 0 (-1) from AS.cO (f:=0) htl (by omega) _] at hB2
    simp only [go_sem]
    have e:mO k t s = m:=by rw [aCA,hqd,hm];rfl
    rw [e] at h
    rw [←hr]
    have hlen:=xE k t s
    have hst:=tA k t s
    rw [hqd,List.nil_append] at hlen hc
    refine h M2 _ (hfb _ _ hB2) ?_ (((hc.put htp).tick).mono (fun _ h=>h) (by omega))
    refine hrep.up (List.nodup_append.1 fS).2.1 (fun n hn=>?_) (fun c hc f' h=>?_) (fun c _=>rfl)
    ·have:n = tp:=by omega
     show (β.put tp 0 (-1)).get n 0 = -1
     rw [AS.eN,if_pos ⟨this,rfl⟩]
    ·show (β.put tp 0 (-1)).get c f' = _
     rw [AS.eN,if_neg (fun e:c = tp∧f' = 0=>by rcases h with h | h;exact h (by rw [hr,e.1]);exact h e.2)]
   | succ len ih =>
    intro done m um sP F' M' β tp hle hqd hm hr hP hB hfb hf hrep fS htp hrk hc kk hkk
    obtain ⟨kk,rfl⟩:∃ j,kk = j + 1:=⟨kk - 1,by omega⟩
    obtain ⟨q',f,rfl⟩:∃ q' f,q = q' ++ [f]:=⟨q.dropLast,q.getLast (by intro e;rw [e] at hq;simp at hq),(List.dropLast_concat_getLast _).symm⟩
    have hq':q'.length = len:=by simp at hq;exact hq
    have hlenP:(wk k t s).1.length≤65536:=by
     have h1:=xE k t s
     have h2:=tA k t s
     have h3:=wY t
     have h4:=wY s
     omega
    have hlq:len + 1≤65536:=by rw [hqd] at hlenP;simp only [List.length_append,List.length_cons,List.length_nil] at hlenP;omega
    refine Eq.mpr (H.L3 ..) ?_
    unfold bD.L3.T aL
    rw [eK,if_pos (by omega)]
    have hx:(aU ((wk k t s).1.map (·.n)))[len]? = some (f.n:Int):=by
     rw [hqd]
     simp [aU,List.getElem?_append,hq']
    have hfo:=hf f (by simp)
    have htl:β.live tp = true:=hrep.live tp (iI hr)
    refine rdx (x:=(f.n:Int)) W.c3 hP hB.fr len (by omega) hx ?_
    refine gV hB fun M2 hB2=>?_
    rw [show β.lS (f.n:Int) 3 (tp:Int) = β.put f.n 3 (tp:Int) from AS.cO (f:=3) hfo.nd.ln (by omega) _] at hB2
    simp only [go_sem]
    have hld:∀ (M2:Mem),aA w0 F' M2 (aF a β)→True:=fun _ _=>trivial
    refine rdy (x:=(f.n:Int)) hP hB2.fr len (by omega) hx ?_
    refine gV hB2 fun M3 hB3=>?_
    rw [show (β.put f.n 3 (tp:Int)).tick.lS (tp:Int) 0 (f.n:Int) = (β.put f.n 3 (tp:Int)).tick.put tp 0 (f.n:Int) from AS.cO (α:=(β.put f.n 3 (tp:Int)).tick) (f:=0) htl (by omega) _] at hB3
    simp only [go_sem]
    refine rdy (x:=(f.n:Int)) hP hB3.fr len (by omega) hx ?_
    have hs3:AS.Sm 2 ((β.put f.n 3 m.root).put tp 0 (f.n:Int)) ((β.put f.n 3 (tp:Int)).tick.put tp 0 (f.n:Int)).tick:=by
     rw [hr]
     exact (((AS.aN (α:=β.put f.n 3 (tp:Int))).put tp 0 _).trans AS.aN).mono (by omega)
    have hcf:(f.cells ++ cells m).Nodup:=by
     unfold qG at fS
     rw [List.flatMap_append,List.append_assoc] at fS
     have:=(List.nodup_append.1 fS).2.1
     simpa using this
    obtain ⟨g1,g2,g3,g4,g5,g6,g7⟩:=aKt hfo hrep hr hcf hs3
    have hnodes:f.n∈aO t∨f.n∈aO s:=(aCS k t s).1 f (by rw [hqd];simp)
    have hcc:=hcf
    simp only [Fr.cells,List.cons_append,List.nodup_cons,List.mem_cons,List.mem_append,not_or] at hcc
    obtain ⟨⟨a1,a2,a3⟩,⟨b1,b2⟩,hn2⟩:=hcc
    have hfmem:∀ c∈f.cells,c∈cells t ++ cells s:=fun c hc=>(yJ k t s hk).mem_iff.1 (List.mem_append_left _ (by
     rw [hqd];unfold qG
     simp only [List.flatMap_append,List.mem_append,List.flatMap_cons,List.flatMap_nil,List.append_nil]
     exact .inl (.inr hc)))
    have hfl:rk f.l≤65536:=by
     have h1:=wY f.l
     have h2:=kX f.l
     have h3:(cells f.l).Nodup:=(List.nodup_append.1 hn2).1
     have h4:=mT α.n _ h3 fun x hx=>AS.cE hI (hlive x (hfmem x (by simp [Fr.cells,hx])))
     omega
    refine zL hB3 g1 g2 g3 g4 g6 g7 a2 a3 (fun e=>a1 e.symm) (by omega) hrk fun M4 β4 hB4 hrep4 hc4=>?_
    simp only [go_sem]
    rw [show qB ((((len + 1:Nat):Int)) - 1 - 1) = (len:Int) - 1 from by rw [bC (by omega)];omega]
    have c3:AS.nM (fun c=>c = f.n∨c = tp) 2 β ((β.put f.n 3 (tp:Int)).tick.put tp 0 (f.n:Int)).tick:=by
     have:=((((AS.nM.refl (S:=fun c=>c = f.n∨c = tp) (α:=β)).put (f:=3) (v:=(tp:Int)) (.inl rfl)).tick).put (f:=0) (v:=(f.n:Int)) (.inr rfl)).tick
     exact this.mono (fun _ h=>h) (by omega)
    have c4:AS.nM (fun c=>c = f.n∨c = tp) 10 β β4:=(c3.trans (hc4.mono (T:=fun c=>c = f.n∨c = tp) (fun c h=>.inl h) (Int.le_refl _))).mono (fun _ h=>h) (by omega)
    have htm:tp∈cells m:=iI hr
    have hndq:(qG q' ++ (f.cells ++ cells m)).Nodup:=by
     unfold qG at fS ⊢
     rw [List.flatMap_append,List.append_assoc] at fS
     simpa using fS
    obtain ⟨q1,q2,q3⟩:=List.nodup_append.1 hndq
    have hperm:(cells (fx f.n f.i f.e f.l m)).Perm (f.cells ++ cells m):=p6 _ _ _ _ _
    refine ih q' hq' (f::done) (fx f.n f.i f.e f.l m) _ sP F' M4 β4 f.n hle (by rw [hqd];simp) (by rw [hm];rfl) (tO _ _ _ _ _) hP hB4 hfb (fun x hx=>?_) hrep4 ?_ hnodes ?_ ?_ kk (by omega)
    ·refine (hf x (by simp [hx])).lN c4 fun c hc e=>?_
     have hcm:c∈qG q':=List.mem_flatMap.2 ⟨x,hx,hc⟩
     rcases e with rfl | rfl
     ·exact q3 _ hcm _ (List.mem_append_left _ (by simp [Fr.cells])) rfl
     ·exact q3 _ hcm _ (List.mem_append_right _ htm) rfl
    ·exact (hperm.append_left _).nodup_iff.2 hndq
    ·rw [aA1];omega
    ·refine (hc.trans (c4.mono (fun c h=>?_) (Int.le_refl _))).mono (fun _ h=>h) (by simp only [List.length_cons];omega)
     rcases h with rfl | rfl
     ·exact hnodes
     ·exact htp
  have down:∀ (kd:Nat) (x y:LT) (p:List Fr) (ux uy:Int) (sP:SV) (M':Mem) (β:AS),(bW x).length + (bW y).length≤kd→p ++ (wk kd x y).1 = (wk k t s).1→(wk kd x y).2 = (wk k t s).2→(x≠nil∨y≠nil)→fA α ux x→fA α uy y →
    aA w0 F M' (star (pG sP ((aU (p.map (·.n))).map (Value.int .i64))) (aF a β))→AS.Sm (7 * (p.length:Int)) α β→∀ kk,kd < kk→bD.L2 aB kk (some ⟨a,0,none⟩) x.root y.root sP M':=by
   intro kd
   have out:∀ (x y:LT) (sP:SV) (M':Mem) (β:AS) (rx ry:Int),(if ry > rx then ry else rx) = (wk k t s).2.root→aA w0 F M' (star (pG sP ((aU ((wk k t s).1.map (·.n))).map (Value.int .i64))) (aF a β))→AS.Sm (7 * ((wk k t s).1.length:Int)) α β→bD.J1 aB (some ⟨a,0,none⟩) rx ry sP M':=by
    intro x y sP M' β rx ry hmax hH hsm
    refine Eq.mpr (H.J1 ..) ?_
    unfold bD.J1.T aL
    rw [hmax]
    have hne2:=aHK k t s hk hnn
    obtain ⟨hfr,um,hum⟩:=aEM k t s ht hs
    have hper:=yJ k t s hk
    have hlenP:(wk k t s).1.length≤65536:=by
     have h1:=xE k t s
     have h2:=tA k t s
     have h3:=wY t
     have h4:=wY s
     omega
    have hPl:∀ c∈(wk k t s).1.map (·.n),c < 65536:=fun c hc=>by
     obtain ⟨f,hf,rfl⟩:=List.mem_map.1 hc
     have:=AS.cE hI (hfr f hf).nd.ln
     omega
    obtain ⟨F',hle,hB,hP⟩:=hH.freeze (fun c hc=>by
     obtain ⟨z,hz,rfl⟩:=List.mem_map.1 hc
     exact aHz (by have:=hPl z hz;unfold cM;omega)) (by simp [aU];omega)
    have hsn:sP.n = (wk k t s).1.length:=by rw [hP.len];simp [aU]
    obtain ⟨tp,htp⟩:∃ tp:Nat,(wk k t s).2.root = (tp:Int):=by
     cases hw:(wk k t s).2 with
     | nil=>exact absurd hw hne2
     | node n i e l r=>exact ⟨n,rfl⟩
    refine ⟨(wk k t s).1.length + 1,?_⟩
    rw [htp,hsn,bC (by omega)]
    refine up (wk k t s).1 [] (wk k t s).2 um sP F' M' β tp hle (by simp) rfl htp hP hB (fun M'' P h=>?_) (fun f hf=>(hfr f hf).lN hsm.lN (S:=fun _=>False) (fun _ _ h=>h)) (hum.lN hsm.lN (S:=fun _=>False) (fun _ _ h=>h)) (hper.nodup_iff.2 hn) ((aCS k t s).2 tp htp) ?_ (hsm.lN.mono (fun _ h=>h) (by simp)) _ (by omega)
    ·obtain ⟨r,h1,h2⟩:=h
     exact ⟨r,h1,⟨h2.nd,fun x hx=>by obtain ⟨a1,a2,a3⟩:=h2.at_ x hx;exact ⟨a1,le_none hle a2,a3⟩,Mem.le_trans hle h2.fr⟩⟩
    ·have h1:=wY (wk k t s).2
     have h2:=kX (wk k t s).2
     have h3:=hper.length_eq
     rw [List.length_append,List.length_append,kX t,kX s] at h3
     omega
   induction kd with
   | zero =>
    intro x y p ux uy sP M' β hkd hp hw hxy hx hy hH hsm kk hkk
    exfalso
    cases x with
    | node n i e l r=>simp only [bW,List.length_cons] at hkd;omega
    | nil =>
     cases y with
     | node n i e l r=>simp only [bW,List.length_cons] at hkd;omega
     | nil=>rcases hxy with h | h <;> exact h rfl
   | succ kd ih =>
    intro x y p ux uy sP M' β hkd hp hw hxy hx hy hH hsm kk hkk
    obtain ⟨kk,rfl⟩:∃ j,kk = j + 1:=⟨kk - 1,by omega⟩
    refine Eq.mpr (H.L2 ..) ?_
    unfold bD.L2.T aL
    cases x with
    | nil =>
     simp only [wk,List.append_nil] at hp hw
     simp only [root,bX,if_true]
     subst hp
     exact out nil y sP M' β (-1) y.root (by have:=aI5 y;rw [←hw];split <;> omega) hH hsm
    | node n i e l r =>
     cases y with
     | nil =>
      simp only [wk,List.append_nil] at hp hw
      simp only [root,bX,if_true]
      rw [if_neg (by omega)]
      subst hp
      exact out (node n i e l r) nil sP M' β (n:Int) (-1) (by rw [←hw];simp only [root];rw [if_neg (by omega)]) hH hsm
     | node m j f b c =>
      simp only [root,bX]
      rw [if_neg (by omega),if_neg (by omega)]
      have hB:=hH.right
      refine vM hB ?_
      simp only [go_sem]
      have hlp:sP.n = p.length:=by
       have:=hH.cells.2
       rw [this];simp [aU]
      have hlenw:=congrArg List.length hp
      rw [List.length_append,xE,xE] at hlenw
      have hst1:=tA k t s
      have hrkt:=wY t
      have hrks:=wY s
      (rw [eK,if_pos (by rw [hsm.n,hlp];omega)];refine Eq.mpr (H.J4 ..) ?_)
      unfold bD.J4.T aL
      obtain ⟨F',hB1,hle,back⟩:=hH.last
      refine q8 hB1 (hsm.nd hy.1) (hsm.nd hx.1) fun M2 β2 hB2 hs2=>?_
      have hH2:=back M2 _ hB2
      have hsm2:AS.Sm (7 * (p.length:Int) + 6) α β2:=hsm.trans hs2
      rw [bT]
      have go:∀ (g:Fr) (x' y':LT) (u1 u2:Int),α.live g.n = true→α.get g.n 3 = x'.root→fA α u1 x'→fA α u2 y'→y'≠nil→(bW x').length + (bW y').length≤kd→p ++ g::(wk kd x' y').1 = (wk k t s).1→(wk kd x' y').2 = (wk k t s).2→bD.J5 aB kk (some ⟨a,0,none⟩) (g.n:Int) y'.root sP M2:=by
       intro g x' y' u1 u2 hgl hg3 hx' hy' hy0 hkd' hp' hw'
       refine Eq.mpr (H.J5 ..) ?_
       unfold bD.J5.T aL
       refine yU (K:=fun s35 M34=>(aJ PP w0).call _ _ _ M34) hH2 (by simp [aU];omega) fun M3 s3 hH3=>?_
       rw [show aU (p.map (·.n)) ++ [(g.n:Int)] = aU ((p ++ [g]).map (·.n)) from by simp [aU]] at hH3
       obtain ⟨F3,hB3,hle3,lP⟩:=hH3.last
       refine eT hB3 fun M4 hB4=>?_
       have hc3:β2.fN (g.n:Int) 3 = x'.root:=by
        refine AS.j5 hB3.inv (f:=3) (by rw [hsm2.live];exact hgl) (by omega) (by rw [hsm2.get];exact hg3) ?_
        rw [hsm2.live];exact hx'.aBV
       rw [hc3,aK]
       refine ih x' y' (p ++ [g]) u1 u2 s3 M4 β2.tick hkd' (by rw [←hp'];simp) hw' (.inr hy0) hx' hy' (lP M4 _ hB4) ((hsm2.trans AS.aN).mono (by simp;omega)) kk (by omega)
      simp only [bW,List.length_cons,List.length_append] at hkd
      by_cases hb:Bf (j,f) (i,e)
      ·rw [decide_eq_true hb,dY]
       simp only [wk,if_pos hb] at hp hw
       exact go ⟨m,j,f,b⟩ c (node n i e l r) _ _ hy.1.ln hy.2.2.2.2.1 hy.2.2.2.2.2.2.2 hx (by simp) (by simp only [bW,List.length_cons,List.length_append];omega) hp hw
      ·rw [decide_eq_false hb,mY]
       simp only [wk,if_neg hb] at hp hw
       exact go ⟨n,i,e,l⟩ r (node m j f b c) _ _ hx.1.ln hx.2.2.2.2.1 hx.2.2.2.2.2.2.2 hy (by simp) (by simp only [bW,List.length_cons,List.length_append];omega) hp hw
  exact ⟨k + 1,down k t s [] ut us ⟨none,0,0⟩ M α hk rfl rfl hnn ht hs (aA.aFh hA) (AS.Sm.refl.mono (by simp)) (k + 1) (by omega)⟩
end
end HL
namespace HL
def bl (n:Nat):Nat:=if n = 0 then 0 else Nat.log2 n + 1
theorem zN {n:Nat} (h:0 < n):2 ^ (bl n - 1)≤n∧n < 2 ^ bl n:=by
 unfold bl
 rw [if_neg (by omega),Nat.add_sub_cancel]
 exact ⟨Nat.log2_self_le (by omega),Nat.lt_log2_self⟩
theorem aLA {n k:Nat} (h1:2 ^ k≤n) (h2:n < 2 ^ (k + 1)):bl n = k + 1:=by
 have hp:0 < 2 ^ k:=Nat.pow_pos (by decide)
 have hn:0 < n:=by omega
 obtain ⟨h3,h4⟩:=zN hn
 have hb:0 < bl n:=by unfold bl;rw [if_neg (by omega)];omega
 have h5:bl n - 1 < k + 1:=(Nat.pow_lt_pow_iff_right (by decide)).1 (Nat.lt_of_le_of_lt h3 h2)
 have h6:k < bl n:=(Nat.pow_lt_pow_iff_right (a:=2) (by decide)).1 (Nat.lt_of_le_of_lt h1 h4)
 omega
theorem aEw {x k:Nat} (h:2 ^ k≤x):bl x = bl (x / 2 ^ k) + k:=by
 have hp:0 < 2 ^ k:=Nat.pow_pos (by decide)
 have hy:0 < x / 2 ^ k:=Nat.div_pos h hp
 obtain ⟨h1,h2⟩:=zN hy
 have hb:0 < bl (x / 2 ^ k):=by unfold bl;rw [if_neg (by omega)];omega
 generalize hj:bl (x / 2 ^ k) = j at h1 h2 hb
 obtain ⟨j,rfl⟩:∃ i,j = i + 1:=⟨j - 1,by omega⟩
 rw [Nat.add_sub_cancel] at h1
 have e:j + 1 + k = j + k + 1:=by omega
 rw [e]
 refine aLA ?_ ?_
 ·rw [Nat.pow_add];exact (Nat.le_div_iff_mul_le hp).1 h1
 ·rw [←e,Nat.pow_add];exact (Nat.div_lt_iff_lt_mul hp).1 h2
theorem aC1 {m n:Nat} (h:m≤n):bl m≤bl n:=by
 by_cases h0:m = 0
 ·subst h0;simp [bl]
 ·obtain ⟨h1,h2⟩:=zN (show 0 < m by omega)
  obtain ⟨h3,h4⟩:=zN (show 0 < n by omega)
  have:=(Nat.pow_lt_pow_iff_right (a:=2) (by decide)).1 (Nat.lt_of_le_of_lt h1 (Nat.lt_of_le_of_lt h h4))
  omega
theorem aFI {n k:Nat} (h:n < 2 ^ k):bl n≤k:=by
 by_cases h0:n = 0
 ·subst h0;simp [bl]
 ·obtain ⟨h1,h2⟩:=zN (show 0 < n by omega)
  have:=(Nat.pow_lt_pow_iff_right (a:=2) (by decide)).1 (Nat.lt_of_le_of_lt h1 h)
  omega
def aEx (a b:Int):Nat→Int
 | 0=>a
 | k + 1=>aEx (jY a b) b k
theorem aA0 {b:Int} (hb:0≤b):∀ (k:Nat) (a:Int),0≤a→a + b * k≤9223372036854775807→aEx a b k = a + b * k
 | 0,a,_,_=>by simp [aEx]
 | k + 1,a,ha,h=>by
  have h1:b * ((k + 1:Nat):Int) = b * k + b:=by rw [Int.natCast_add,Int.mul_add];simp
  have h2:0≤b * (k:Int):=Int.mul_nonneg hb (by omega)
  have e:jY a b = a + b:=by unfold jY;rw [if_neg (by omega),if_neg (by omega)]
  rw [aEx,e,aA0 hb k (a + b) (by omega) (by omega)]
  omega
theorem aCL {k n:Nat} (h:2 ^ k≤n):k + 1≤bl n:=by
 obtain ⟨h1,h2⟩:=zN (show 0 < n from Nat.lt_of_lt_of_le (Nat.pow_pos (by decide)) h)
 have:=(Nat.pow_lt_pow_iff_right (a:=2) (by decide)).1 (Nat.lt_of_le_of_lt h h2)
 omega
def dK (n:Nat):Int:=500 + 400 * (bl n:Int)
theorem pO {m n:Nat} (h:m≤n):dK m≤dK n:=by
 have:=aC1 h
 unfold dK;omega
end HL
namespace HL
namespace AS
structure lJ (S L:Nat→Prop) (d k:Int) (α β:AS):Prop where
 n:β.n = α.n
 get:∀ c,¬ S c→∀ f,β.get c f = α.get c f
 live:∀ c,¬ L c→β.live c = α.live c
 len:(β.len:Int) = (α.len:Int) + d
 steps:0≤α.steps∧α.steps≤9223372036854775807→β.steps≤9223372036854775807∧α.steps≤β.steps∧β.steps≤α.steps + k
theorem nM.pL {S L:Nat→Prop} {k:Int} {α β:AS} (h:nM S k α β):lJ S L 0 k α β :=
 ⟨h.n,h.get,fun c _=>by rw [h.live],by rw [aBL h.never h.live];omega,h.steps⟩
theorem Sm.pL {S L:Nat→Prop} {k:Int} {α β:AS} (h:Sm k α β):lJ S L 0 k α β:=nM.pL h.lN
theorem lJ.trans {S L:Nat→Prop} {d k d' k':Int} {α β γ:AS} (h:lJ S L d k α β) (h2:lJ S L d' k' β γ):lJ S L (d + d') (k + k') α γ :=
 ⟨h2.n.trans h.n,fun c hc f=>(h2.get c hc f).trans (h.get c hc f),fun c hc=>(h2.live c hc).trans (h.live c hc),by have:=h.len;have:=h2.len;omega,fun h0=>by have h1:=h.steps h0;have h3:=h2.steps ⟨by omega,h1.1⟩;omega⟩
theorem lJ.mono {S L S' L':Nat→Prop} {d k k':Int} {α β:AS} (h:lJ S L d k α β) (hS:∀ c,S c→S' c) (hL:∀ c,L c→L' c) (hk:k≤k'):lJ S' L' d k' α β :=
 ⟨h.n,fun c hc f=>h.get c (fun hs=>hc (hS c hs)) f,fun c hc=>h.live c (fun hs=>hc (hL c hs)),h.len,fun h0=>by have:=h.steps h0;omega⟩
theorem lJ.to {S L:Nat→Prop} {d d' k:Int} {α β:AS} (h:lJ S L d k α β) (e:d = d'):lJ S L d' k α β:=e▸h
theorem vS {S L:Nat→Prop} {α:AS} (hi:α.Inv) {n:Nat} (h:α.next = some n) (hS:S n) (hL:L n):lJ S L 1 0 α α.take:=by
 have h1:=(kL hi h).2.2
 have h2:=(aGc hi h).1
 refine ⟨by rw [h1];rfl,fun c hc f=>?_,fun c hc=>?_,by omega,fun h0=>?_⟩
 ·rw [h1]
  show (if c = n then fresh f else α.get c f) = _
  rw [if_neg (fun e:c = n=>hc (by rw [e];exact hS))]
 ·rw [h1]
  show (if c = n then true else α.live c) = _
  rw [if_neg (fun e:c = n=>hc (by rw [e];exact hL))]
 ·rw [h1]
  exact ⟨h0.2,Int.le_refl _,by show α.steps≤_;omega⟩
theorem xS {α:AS} (hi:α.Inv) {n:Nat} (h:α.next = some n):(∀ f,α.take.get n f = fresh f)∧α.take.live n = true:=by
 have h1:=(kL hi h).2.2
 refine ⟨fun f=>?_,?_⟩
 ·rw [h1]
  show (if n = n then fresh f else α.get n f) = _
  rw [if_pos rfl]
 ·rw [h1]
  show (if n = n then true else α.live n) = _
  rw [if_pos rfl]
theorem pR {S L:Nat→Prop} {α:AS} (hi:α.Inv) {n:Nat} (h:α.live n = true) (hL:L n):lJ S L (-1) 0 α (α.kU n) :=
 ⟨rfl,fun _ _ _=>rfl,fun c hc=>by
  show (if c = n then false else α.live c) = _
  rw [if_neg (fun e:c = n=>hc (by rw [e];exact hL))],by have:=aD3 hi h;omega,fun h0=>⟨h0.2,Int.le_refl _,by show α.steps≤_;omega⟩⟩
theorem aCt {S L:Nat→Prop} {α:AS} {c f:Nat} {v:Int} (h:S c):lJ S L 0 0 α (α.put c f v):=(aCh h).pL
theorem lJ.put {S L:Nat→Prop} {d k:Int} {α β:AS} (h:lJ S L d k α β) {c f:Nat} {v:Int} (hc:S c):lJ S L d k α (β.put c f v) :=
 ((h.trans (aCt (L:=L) (f:=f) (v:=v) hc)).mono (fun _ h=>h) (fun _ h=>h) (by omega)).to (by omega)
end AS
end HL
namespace HL
section
variable {w0:World} {M F:Mem} {R:VP} {a:Nat} {α:AS}
open Go.Proofs.YtodobkbnmjgkdaaGreat.HL.LT
theorem y4 {t:LT} (h:Ln t) {m:Nat} (hm:(bW t).length + 1≤m):rk t + 1≤bl m:=aCL (Nat.le_trans (aCD h) hm)
theorem tZ {t:LT} (h:Ln t) {m:Nat} (hm:(bW t).length≤m):rk t≤bl m:=by
 have h1:=aCD h
 cases hr:rk t with
 | zero=>omega
 | succ r =>
  rw [hr,Nat.pow_succ] at h1
  have h2:1≤2 ^ r:=Nat.one_le_two_pow
  exact aCL (Nat.le_trans (by omega:2 ^ r≤(bW t).length) hm)
theorem aGy {γ:AS} {n i:Nat} {e:cY} {l r:LT} {up:Int} (h:fA γ up (node n i e l r)):γ.get n 0 = up:=h.2.1
theorem yQ:∀ {cs:List Cx} {x:Nat},x∈aAg cs→x∈fK cs
 | [],x,h=>by cases h
 | c::cs,x,h=>by
  simp only [aAg,fK,List.mem_cons,List.mem_append] at h ⊢
  rcases h with h | h | h
  ·exact .inl h
  ·exact .inr (.inr (.inl (mV h)))
  ·exact .inr (.inr (.inr (yQ h)))
theorem aC2 {aB:fC} (H:bN.Is (aJ PP w0) aB R) {N m:Nat} (hN:m≤N):∀ (cs:List Cx) (x:LT) (hk j:Nat) (M':Mem) (β:AS),aA w0 F M' (aF a β)→aAh β x.root hk cs→fA β (upc cs) x→Ln x→LnC hk cs→(fK cs ++ cells x).Nodup→j≤rk x→rk x < hk→((yM cs).length + (bW x).length + 1≤m)→β.n = N →
  (∀ M'' γ,aA w0 F M'' (aF a γ)→fA γ (-1) (rp cs x)→AS.nM (fun c=>c∈aAg cs) (9 * (bl m + 1 - j)) β γ→R (.tuple #[]) M'')→∀ kk,cs.length < kk→bN.L2 aB kk (some ⟨a,0,none⟩) (upc cs) (j:Int) M'
 | [],x,hk,j,M',β,hA,hrc,hrx,hlx,hlc,fS,hj,hlt,hm,hn,hR,kk,hkk=>by
  obtain ⟨kk,rfl⟩:∃ i,kk = i + 1:=⟨kk - 1,by simp at hkk;omega⟩
  refine Eq.mpr (H.L2 ..) ?_
  unfold bN.L2.T aL
  simp only [upc,bX,if_true]
  have:=y4 hlx (m:=m) (by simp only [yM,List.length_nil] at hm;omega)
  exact hR M' β hA hrx (AS.nM.refl.mono (fun _ h=>h) (by omega))
 | c::cs,x,hk,j,M',β,hA,hrc,hrx,hlx,hlc,fS,hj,hlt,hm,hn,hR,kk,hkk=>by
  obtain ⟨kk,rfl⟩:∃ i,kk = i + 1:=⟨kk - 1,by simp at hkk;omega⟩
  refine Eq.mpr (H.L2 ..) ?_
  unfold bN.L2.T aL
  simp only [upc,bX]
  rw [if_neg (by omega)]
  obtain ⟨h1,h2,h3,h4,h5,h6,h7,h8⟩:=hrc
  obtain ⟨l1,l2,l3⟩:=hlc
  simp only [yM,List.length_cons,List.length_append] at hm
  have hI:=hA.inv
  have hI65:=hI.n
  have hrkx:=wY x
  refine vM hA ?_
  simp only [go_sem,eK]
  rw [if_pos (by omega)]
  have hnd0:=fS
  simp only [fK,List.cons_append,List.nodup_cons,List.mem_cons,List.mem_append,not_or] at fS
  obtain ⟨⟨a1,⟨a2,a3⟩,a4⟩,⟨⟨b1,b2⟩,b3⟩,hn2⟩:=fS
  have hxb:=y4 hlx (m:=m) (by omega)
  have hob:=tZ l2 (m:=m) (by omega)
  have hbm:bl m≤64:=aFI (by omega)
  have fin:∀ (M2:Mem) (γ:AS),aA w0 F M2 (aF a γ)→fA γ (upc cs) (c.fx x)→AS.nM (· = c.n) 8 β γ→bs (β.get c.n 4 != ((LT.rk (c.fx x):Nat):Int)) (bN.J3 aB kk (some ⟨a,0,none⟩) (c.n:Int) (j:Int) M2) (R (.tuple #[]) M2):=by
   intro M2 γ hB hrep hc
   have hrkf:LT.rk (c.fx x) = min (LT.rk x) (LT.rk c.o) + 1:=Cx.aA1
   have hrk0:=aKZ l1
   have hrc':aAh γ c.n (c.rk hk) cs:=h8.lN hc (fun d hd e=>a3 (e▸hd))
   rw [h6,bX]
   split
   ·rename_i he
    have he':c.rk hk = LT.rk (c.fx x):=by omega
    refine hR M2 γ hB ?_ (hc.mono (fun d e=>e▸by simp [aAg]) (by omega))
    show fA γ (-1) (rp cs (c.fx x))
    rw [aEY (by rw [←he'];exact l3)]
    exact qZ.2 ⟨by rw [Cx.tO,←he'];exact hrc',hrep⟩
   ·rename_i he
    have he':c.rk hk≠LT.rk (c.fx x):=fun e=>he (by rw [e])
    refine Eq.mpr (H.J3 ..) ?_
    unfold bN.J3.T aL
    have g0:γ.get c.n 0 = upc cs:=by
     have:=hrep
     have hroot:=Cx.tO c x
     cases hf:c.fx x with
     | nil=>exact absurd hf (by unfold Cx.fx;split <;> exact aLt _ _ _ _ _)
     | node n' i' e' l' r' =>
      rw [hf] at this hroot
      simp only [LT.root] at hroot
      have:n' = c.n:=by omega
      subst this
      exact aGy (by rw [hf] at hrep;exact hrep)
    refine eT hB fun M3 hB3=>?_
    rw [show γ.fN (c.n:Int) 0 = upc cs from AS.j5 hB.inv (f:=0) (by rw [hc.live];exact h1.ln) (by omega) g0 (by
     cases cs with
     | nil=>exact .inl rfl
     | cons d ds=>exact .inr ⟨d.n,rfl,hrc'.1.ln⟩)]
    rw [aK,bC (by omega)]
    have hprm:(fK cs ++ cells (c.fx x)).Nodup:=by
     have h9:(fK cs ++ cells (c.fx x)).Perm (fK (c::cs) ++ cells x):=((c.p6 x).append_left _).trans (aCm _ _ _ _ _)
     exact h9.nodup_iff.2 hnd0
    refine aC2 H hN cs (c.fx x) (c.rk hk) (j + 1) M3 γ.tick hB3 ?_ ?_ (Cx.aAW l2 hlx) l3 hprm (by omega) (by omega) ?_ (hc.n.trans hn) ?_ kk (by simp at hkk;omega)
    ·rw [Cx.tO];exact hrc'.lN (S:=fun _=>False) AS.aN.lN (fun _ _ h=>h)
    ·exact hrep.lN (S:=fun _=>False) AS.aN.lN (fun _ _ h=>h)
    ·have:=(c.vO x).length_eq
     simp only [List.length_cons,List.length_append] at this
     omega
    ·intro M4 δ hB4 hr4 hc4
     refine hR M4 δ hB4 hr4 ((((hc.mono (T:=fun d=>d∈aAg (c::cs)) (fun d e=>e▸by simp [aAg]) (Int.le_refl _)).tick).trans (hc4.mono (fun d hd=>by simp [aAg,hd]) (Int.le_refl _))).mono (fun _ h=>h) (by omega))
  by_cases hl:c.l = true
  ·rw [if_pos hl] at h4 h5
   have hfx:c.fx x = LT.fx c.n c.i c.e x c.o:=by unfold Cx.fx;rw [if_pos hl]
   refine zL hA h1 h3 h4 h5 hrx h7 a4 a2 (fun e=>a1 e.symm) (by omega) (by omega) fun M2 γ hB hrep hc=>?_
   rw [bT]
   rw [h2] at hrep
   rw [←hfx] at hrep ⊢
   exact fin M2 γ hB hrep hc
  ·have hl':c.l = false:=by simpa using hl
   rw [hl'] at h4 h5
   simp only [Bool.false_eq_true,if_false] at h4 h5
   have hfx:c.fx x = LT.fx c.n c.i c.e c.o x:=by unfold Cx.fx;rw [hl'];rfl
   refine zL hA h1 h3 h5 h4 h7 hrx a2 a4 (fun e=>a1 e.symm) (by omega) (by omega) fun M2 γ hB hrep hc=>?_
   rw [bT]
   rw [h2] at hrep
   rw [←hfx] at hrep ⊢
   exact fin M2 γ hB hrep hc
theorem aAd (hA:aA w0 F M (aF a α)) {c:Cx} {cs:List Cx} {n i:Nat} {e:cY} {l r:LT} (hrep:fA α (-1) (iF (c::cs) (node n i e l r))) (fS:(cells (iF (c::cs) (node n i e l r))).Nodup) (hln:Ln (iF (c::cs) (node n i e l r))) {m:Nat} (hm:(bW (iF (c::cs) (node n i e l r))).length≤m)
  (h:∀ M' β,aA w0 F M' (aF a β)→fA β (-1) (rp (c::cs) nil)→fA β (-1) (node n i e l r)→AS.nM (fun x=>x∈aAg (c::cs)∨x = n) (9 * bl m + 16) α β→R (.tuple #[]) M'):C PP w0 Id.bN #[.pointer (some ⟨a,0,none⟩),.int .i64 (n:Int)] R M:=by
 apply bN.go
 intro aB H
 unfold bN.T aL
 have hI:=hA.inv
 obtain ⟨hrc,hrt⟩:=qZ.1 hrep
 obtain ⟨hlc,hlt⟩:=wH.1 hln
 have hperm:=iZ (c::cs) (node n i e l r)
 have hnd':=hperm.nodup_iff.1 fS
 have hitl:=(aAu (c::cs) (node n i e l r)).length_eq
 have hclen:=mT α.n _ fS fun x hx=>AS.cE hI (hrep.live x hx)
 rw [kX,hitl,List.length_append] at hclen
 rw [hitl,List.length_append] at hm
 have hbl:=aC1 hm
 have hm2:(yM (c::cs)).length + 0 + 1≤(yM (c::cs)).length + (bW (node n i e l r)).length:=by simp only [bW,List.length_cons];omega
 obtain ⟨h1,h2,h3,h4,h5,h6,h7,h8⟩:=hrc
 obtain ⟨q1,q2,q3⟩:=List.nodup_append.1 hnd'
 have hcn:c.n≠n:=q3 c.n (by simp [fK]) n (by simp [cells])
 have hin:c.i≠n:=q3 c.i (by simp [fK]) n (by simp [cells])
 have hno:n ∉ cells c.o:=fun hc=>q3 n (by simp [fK,hc]) n (by simp [cells]) rfl
 have hnc:n ∉ fK cs:=fun hc=>q3 n (by simp [fK,hc]) n (by simp [cells]) rfl
 have hcc:c.n ∉ cells c.o∧c.n ∉ fK cs∧c.i≠c.n:=by
  simp only [fK,List.nodup_cons,List.mem_cons,List.mem_append,not_or] at q1
  exact ⟨q1.1.2.1,q1.1.2.2,fun e=>q1.1.1 e.symm⟩
 have hnln:α.live n = true:=hrt.1.ln
 have hup:α.get n 0 = (c.n:Int):=hrt.2.1
 have hor:c.o.root≠(n:Int):=fun e=>hno (iI e)
 have fin:∀ (M2:Mem) (β:AS),aA w0 F M2 (aF a β)→AS.Sm 4 (α.put c.n (if c.l then 2 else 3) (-1)) β→bN.J1 aB (some ⟨a,0,none⟩) (n:Int) (c.n:Int) M2:=by
  intro M2 β hB hs
  refine Eq.mpr (H.J1 ..) ?_
  unfold bN.J1.T aL
  refine gV hB fun M3 hB3=>?_
  rw [show β.lS (n:Int) 0 (-1) = β.put n 0 (-1) from AS.cO (f:=0) (by rw [hs.live];exact hnln) (by omega) _] at hB3
  simp only [go_sem]
  have hs3:AS.Sm 5 ((α.put c.n (if c.l then 2 else 3) (-1)).put n 0 (-1)) (β.put n 0 (-1)).tick:=((hs.put n 0 _).trans AS.aN).mono (by omega)
  have hc3:AS.nM (fun x=>x = c.n∨x = n) 5 α (β.put n 0 (-1)).tick:=((((AS.nM.refl (S:=fun x=>x = c.n∨x = n) (α:=α)).put (.inl rfl)).put (.inr rfl)).trans hs3.lN).mono (fun _ h=>h) (by omega)
  generalize (β.put n 0 (-1)).tick = γ at hB3 hs3 hc3
  have g:∀ x f,γ.get x f = if x = n∧f = 0 then -1 else if x = c.n∧f = (if c.l then 2 else 3) then -1 else α.get x f:=fun x f=>by rw [hs3.get];rfl
  have gc:∀ f,f≠(if c.l then 2 else 3)→γ.get c.n f = α.get c.n f:=fun f hf=>by rw [g,if_neg (fun e:c.n = n∧f = 0=>hcn e.1),if_neg (fun e:c.n = c.n∧f = (if c.l then 2 else 3)=>hf e.2)]
  have gi:∀ f,γ.get c.i f = α.get c.i f:=fun f=>hc3.get c.i (by rintro (e | e);exact hcc.2.2 e;exact hin e) f
  have gl:∀ x,γ.live x = α.live x:=fun x=>by rw [hc3.live]
  have hf2:(if c.l then 2 else 3) = 2∨(if c.l then 2 else 3) = 3:=by cases c.l <;> simp
  have hdiff:(if c.l then 3 else 2)≠(if c.l then 2 else 3):=by cases c.l <;> simp
  have hrc3:aAh γ nil.root (LT.rk (node n i e l r)) (c::cs):=by
   refine ⟨⟨(gl _).trans h1.ln,(gl _).trans h1.li,(gc 6 (by omega)).trans h1.it,(gi 9).trans h1.nd,(gi 7).trans h1.k,(gi 8).trans h1.s⟩,(gc 0 (by omega)).trans h2,(gc 1 (by omega)).trans h3,?_,(gc _ hdiff).trans h5,(gc 4 (by omega)).trans h6,?_,?_⟩
   ·rw [g,if_neg (fun e:c.n = n∧_=>hcn e.1),if_pos ⟨rfl,rfl⟩];rfl
   ·exact h7.lN hc3 fun x hx=>by rintro (e | e);exact hcc.1 (e▸hx);exact hno (e▸hx)
   ·exact h8.lN hc3 fun x hx=>by rintro (e | e);exact hcc.2.1 (e▸hx);exact hnc (e▸hx)
  have hrt3:fA γ (-1) (node n i e l r):=by
   refine hrt.up q2 (fun y hy=>?_) (fun x hx f hf=>?_) (fun x _=>gl x)
   ·have:y = n:=by simp only [LT.root] at hy;omega
    rw [g,if_pos ⟨this,rfl⟩]
   ·rw [g,if_neg (fun e:x = n∧f = 0=>by rcases hf with hf | hf;exact hf (by simp only [LT.root];omega);exact hf e.2),if_neg (fun e:x = c.n∧_=>q3 c.n (by simp [fK]) x hx e.1.symm)]
  refine ⟨(c::cs).length + 1,aC2 (m:=(yM (c::cs)).length + (bW (node n i e l r)).length) (N:=γ.n) H ?_ (c::cs) nil _ 0 M3 γ hB3 hrc3 trivial trivial hlc ?_ (Nat.zero_le _) (by simp [LT.rk]) (by simp [bW]) rfl (fun M4 δ hB4 hr4 hc4=>?_) _ (by omega)⟩
  ·rw [hc3.n];omega
  ·simpa [cells] using q1
  ·refine h M4 δ hB4 hr4 (hrt3.lN hc4 fun x hx hy=>?_) (((hc3.mono (fun x hx=>?_) (Int.le_refl _)).trans (hc4.mono (fun x hx=>.inl hx) (Int.le_refl _))).mono (fun _ h=>h) (by omega))
   ·exact q3 x (yQ hy) x hx rfl
   ·rcases hx with rfl | rfl
    ·exact .inl (by simp [aAg])
    ·exact .inr rfl
 refine eT hA fun M1 hA1=>?_
 rw [show α.fN (n:Int) 0 = (c.n:Int) from AS.dE (f:=0) hnln (by omega) hup (AS.cE hI h1.ln)]
 simp only [go_sem]
 refine eT hA1 fun M2 hA2=>?_
 by_cases hl:c.l = true
 ·rw [if_pos hl] at h4 h5
  rw [show α.tick.fN (c.n:Int) 2 = (n:Int) from AS.dE (α:=α.tick) (f:=2) h1.ln (by omega) h4 (AS.cE hI hnln)]
  simp only [go_sem,fB,if_true]
  refine gV hA2 fun M3 hA3=>?_
  rw [show α.tick.tick.lS (c.n:Int) 2 (-1) = α.tick.tick.put c.n 2 (-1) from AS.cO (α:=α.tick.tick) (f:=2) h1.ln (by omega) _] at hA3
  simp only [go_sem]
  refine fin M3 _ hA3 ?_
  rw [if_pos hl]
  exact ((((AS.aN (α:=α)).trans AS.aN).put c.n 2 (-1)).trans AS.aN).mono (by omega)
 ·have hl':c.l = false:=by simpa using hl
  rw [hl'] at h4 h5
  simp only [Bool.false_eq_true,if_false] at h4 h5
  rw [show α.tick.fN (c.n:Int) 2 = c.o.root from AS.j5 (α:=α.tick) (AS.p4 hI) (f:=2) h1.ln (by omega) h5 h7.aBV]
  simp only [go_sem,fB]
  rw [if_neg hor]
  refine eT hA2 fun M3 hA3=>?_
  rw [show α.tick.tick.fN (c.n:Int) 3 = (n:Int) from AS.dE (α:=α.tick.tick) (f:=3) h1.ln (by omega) h4 (AS.cE hI hnln)]
  simp only [go_sem,if_true]
  refine gV hA3 fun M4 hA4=>?_
  rw [show α.tick.tick.tick.lS (c.n:Int) 3 (-1) = α.tick.tick.tick.put c.n 3 (-1) from AS.cO (α:=α.tick.tick.tick) (f:=3) h1.ln (by omega) _] at hA4
  simp only [go_sem]
  refine fin M4 _ hA4 ?_
  rw [hl']
  exact (((((AS.aN (α:=α)).trans AS.aN).trans AS.aN).put c.n 3 (-1)).trans AS.aN).mono (by omega)
end
end HL
namespace HL
structure Hp (α:AS) (r:Int) (t:LT):Prop where
 r:r = t.root
 rep:LT.fA α (-1) t
 nd:(LT.cells t).Nodup
 ln:LT.Ln t
 od:LT.Od t
def HpF (α:AS) (r:Int) (t:LT) (i:Nat) (e e':cY):Prop :=
 ∃ cs n l s,t = LT.iF cs (.node n i e l s)∧r = t.root∧LT.fA α (-1) (LT.iF cs (.node n i e' l s))∧(LT.cells t).Nodup∧LT.Ln t∧LT.OdC cs∧LT.Od (.node n i e' l s)
section
variable {w0:World} {M F:Mem} {R:VP} {a:Nat} {α:AS}
open Go.Proofs.YtodobkbnmjgkdaaGreat.HL.LT
theorem Hp.congr {β:AS} {r:Int} {t:LT} (h:Hp α r t) (hg:∀ c∈cells t,∀ f,β.get c f = α.get c f) (hl:∀ c∈cells t,β.live c = α.live c):Hp β r t:=⟨h.r,h.rep.congr hg hl,h.nd,h.ln,h.od⟩
theorem Hp.live {r:Int} {t:LT} (h:Hp α r t):∀ c∈cells t,α.live c = true:=h.rep.live
theorem Hp.nil:Hp α (-1) .nil:=⟨rfl,trivial,List.nodup_nil,trivial,trivial⟩
theorem aH4 {n i:Nat} {e:cY} {l r:LT} (h:Od (node n i e l r)):∀ y∈bW l ++ bW r,Bf (i,e) y:=fun y hy=>by
 rcases List.mem_append.1 hy with hy | hy
 ·exact h.1 y hy
 ·exact h.2.1 y hy
theorem Hp.lower {r:Int} {t:LT} {i:Nat} {e e':cY} (h:Hp α r t) (hm:(i,e)∈bW t) (hle:e'.1≤e.1) (hs:e'.2 = e.2):HpF (α.put i 7 e'.1) r t i e e':=by
 obtain ⟨cs,n,l,s,rfl⟩:=find hm
 obtain ⟨h1,h2⟩:=qZ.1 h.rep
 have fS:=(iZ cs (node n i e l s)).nodup_iff.1 h.nd
 obtain ⟨q1,q2,q3⟩:=List.nodup_append.1 fS
 have q2':=q2
 simp only [cells,List.nodup_cons,List.mem_cons,List.mem_append,not_or] at q2'
 obtain ⟨⟨a1,a2,a3⟩,⟨b1,b2⟩,_⟩:=q2'
 have hc:AS.nM (· = i) 0 α (α.put i 7 e'.1):=AS.aCh rfl
 obtain ⟨h3,h4,h5⟩:=aCY.1 h.od
 have hod:Od (node n i e' l s):=by
  obtain ⟨o1,o2,o3,o4⟩:=h4
  have key:∀ x:cC,Bf (i,e) x→Bf (i,e') x:=by
   intro x hx
   rcases hx with hx | ⟨hx,hx'⟩
   ·refine .inl ?_
    unfold Lt at hx ⊢
    simp only at hx ⊢
    omega
   ·by_cases h9:e'.1 = e.1
    ·have:e' = e:=Prod.ext h9 hs
     rw [this];exact .inr ⟨hx,hx'⟩
    ·refine .inl ?_
     have hx2:e = x.2:=hx
     unfold Lt
     rw [←hx2]
     simp only
     omega
  exact ⟨fun x hx=>key x (o1 x hx),fun x hx=>key x (o2 x hx),o3,o4⟩
 refine ⟨cs,n,l,s,rfl,h.r,qZ.2 ⟨?_,?_⟩,h.nd,h.ln,h3,hod⟩
 ·exact (h1.lN hc fun x hx e=>q3 x hx i (by simp [cells]) e)
 ·obtain ⟨g1,g2,g3,g4,g5,g6,g7,g8⟩:=h2
  have gn:∀ f,(α.put i 7 e'.1).get n f = α.get n f:=fun f=>hc.get n (fun e=>a1 e) f
  refine ⟨⟨g1.ln,g1.li,(gn 6).trans g1.it,?_,?_,?_⟩,(gn 0).trans g2,(gn 1).trans g3,(gn 2).trans g4,(gn 3).trans g5,(gn 4).trans g6,g7.lN hc fun x hx e=>b1 (e▸hx),g8.lN hc fun x hx e=>b2 (e▸hx)⟩
  ·rw [AS.eN,if_neg (by omega)];exact g1.nd
  ·rw [AS.eN,if_pos ⟨rfl,rfl⟩]
  ·rw [AS.eN,if_neg (by omega),hs];exact g1.s
theorem rK {m:Nat} {j:Int} (h:j≤100 * (bl m:Int) + 100):j≤dK m:=by
 unfold dK;omega
theorem aEK (hA:aA w0 F M (aF a α)) {r:Int} {t:LT} (hp:Hp α r t) {i:Nat} {e:cY} (hi:α.live i = true) (hic:i ∉ cells t) (h7:α.get i 7 = e.1) (h8:α.get i 8 = e.2)
  (h0:α.next = none→∀ M' β,aA w0 F M' (aF a β)→AS.Sm 1 α β→R (.tuple #[.int .i64 r,.bool false]) M')
  (h1:∀ n,α.next = some n→α.live n = false→∀ M' β t',aA w0 F M' (aF a β)→Hp β t'.root t'→(bW t').Perm ((i,e)::bW t)→(cells t').Perm (n::i::cells t)→AS.lJ (fun c=>c∈n::i::cells t) (· = n) 1 (dK ((bW t).length + 1)) α β→R (.tuple #[.int .i64 t'.root,.bool true]) M') :
  C PP w0 Id.pB #[.pointer (some ⟨a,0,none⟩),.int .i64 r,.int .i64 (i:Int)] R M:=by
 apply pB.go
 unfold pB.T aL
 have hI:=hA.inv
 simp only [go_sem,Option.isNone_some,mY]
 refine aAz hA hi (fun hnx M1 β hB hs=>?_) fun n hnx M1 β hB hs=>?_
 ·simp only [go_sem,Bool.not_false,dY]
  exact h0 hnx M1 β hB hs
 ·simp only [go_sem,Bool.not_true,mY]
  obtain ⟨hnn,hnl,hnt⟩:=AS.kL hI hnx
  have hnt2:n ∉ cells t:=fun hc=>by have:=hp.live n hc;rw [hnl] at this;cases this
  have hin:i≠n:=fun e=>by rw [e,hnl] at hi;cases hi
  obtain ⟨hfr,hfl⟩:=AS.xS hI hnx
  have hbl:β.live n = true:=by rw [hs.live];exact hfl
  refine gV hB fun M2 hB2=>?_
  rw [show β.lS (n:Int) 4 1 = β.put n 4 1 from AS.cO (f:=4) hbl (by omega) _] at hB2
  simp only [go_sem]
  have hs2:AS.Sm 4 (((α.take.put n 6 (i:Int)).put i 9 (n:Int)).put n 4 1) (β.put n 4 1).tick:=((hs.put n 4 1).trans AS.aN).mono (by omega)
  have he2:AS.lJ (fun c=>c = n∨c = i) (· = n) 1 4 α (β.put n 4 1).tick:=(((((AS.vS (S:=fun c=>c = n∨c = i) (L:=(· = n)) hI hnx (.inl rfl) rfl).put (f:=6) (v:=(i:Int)) (c:=n) (.inl rfl)).put (f:=9) (v:=(n:Int)) (c:=i) (.inr rfl)).put (f:=4) (v:=1) (c:=n) (.inl rfl)).trans hs2.pL).mono (fun _ h=>h) (fun _ h=>h) (by omega) |>.to (by omega)
  generalize (β.put n 4 1).tick = γ at hB2 hs2 he2
  have g:∀ x f,γ.get x f = if x = n∧f = 4 then 1 else if x = i∧f = 9 then (n:Int) else if x = n∧f = 6 then (i:Int) else α.take.get x f:=fun x f=>by rw [hs2.get];rfl
  have gtk:∀ x f,x≠n→α.take.get x f = α.get x f:=fun x f hx=>by
   rw [hnt]
   show (if x = n then AS.fresh f else α.get x f) = _
   rw [if_neg hx]
  have gl:∀ x,γ.live x = if x = n then true else α.live x:=fun x=>by rw [hs2.live,show (((α.take.put n 6 (i:Int)).put i 9 (n:Int)).put n 4 1).live = α.take.live from rfl,hnt];rfl
  have hrt:fA γ (-1) t:=hp.rep.congr (fun c hc f=>he2.get c (by rintro (h | h);exact hnt2 (h▸hc);exact hic (h▸hc)) f) (fun c hc=>he2.live c (fun e=>hnt2 (e▸hc)))
  have gn:∀ f,f≠4→f≠6→γ.get n f = AS.fresh f:=fun f h4 h6=>by rw [g,if_neg (fun e:n = n∧f = 4=>h4 e.2),if_neg (fun e:n = i∧f = 9=>hin e.1.symm),if_neg (fun e:n = n∧f = 6=>h6 e.2),hfr]
  have gi:∀ f,f≠9→γ.get i f = α.get i f:=fun f h9=>by rw [g,if_neg (fun e:i = n∧f = 4=>hin e.1),if_neg (fun e:i = i∧f = 9=>h9 e.2),if_neg (fun e:i = n∧f = 6=>hin e.1),gtk _ _ hin]
  have hrs:fA γ (-1) (node n i e .nil .nil):=by
   refine ⟨⟨by rw [gl,if_pos rfl],by rw [gl,if_neg hin];exact hi,?_,?_,(gi 7 (by omega)).trans h7,(gi 8 (by omega)).trans h8⟩,gn 0 (by omega) (by omega),gn 1 (by omega) (by omega),gn 2 (by omega) (by omega),gn 3 (by omega) (by omega),?_,trivial,trivial⟩
   ·rw [g,if_neg (by omega),if_neg (by omega),if_pos ⟨rfl,rfl⟩]
   ·rw [g,if_neg (by omega),if_pos ⟨rfl,rfl⟩]
   ·rw [g,if_pos ⟨rfl,rfl⟩];rfl
  have hcc:(cells t ++ cells (node n i e .nil .nil)).Nodup:=by
   rw [List.nodup_append]
   refine ⟨hp.nd,by simp only [cells,List.append_nil,List.nodup_cons,List.mem_cons,List.not_mem_nil,or_false,not_false_eq_true,List.nodup_nil,and_true];exact fun e=>hin e.symm,fun x hx y hy e=>?_⟩
   simp only [cells,List.append_nil,List.mem_cons,List.not_mem_nil,or_false] at hy
   rcases hy with rfl | rfl
   ·exact hnt2 (e▸hx)
   ·exact hic (e▸hx)
  rw [hp.r]
  have hk:(bW t).length + (bW (node n i e .nil .nil)).length≤(bW t).length + 1:=by simp [bW]
  refine rF (t:=t) (s:=node n i e .nil .nil) hB2 hrt hrs hcc hk fun M3 δ hB3 hr3 hc3=>?_
  simp only [go_sem]
  have hits:=oX _ _ _ hk
  have hcel:=nK _ _ _ hk
  have hbb:=y4 hp.ln (m:=(bW t).length + 1) (Nat.le_refl _)
  refine h1 n hnx hnl M3 δ _ hB3 ⟨rfl,hr3,hcel.nodup_iff.2 hcc,uE _ _ _ hp.ln (by simp [Ln]),tQ _ _ _ hk hp.od (by simp [Od,bW]) fun x hx y hy e=>?_⟩ (hits.trans (by simp only [bW,List.append_nil];exact List.perm_append_comm)) (hcel.trans (by simp only [cells,List.append_nil];exact List.perm_append_comm)) ?_
  ·simp only [bW,List.append_nil,List.mem_cons,List.not_mem_nil,or_false] at hy
   subst hy
   exact hic (by have h9:=oH hx;rw [e] at h9;exact h9)
  ·refine ((he2.mono (S':=fun c=>c∈n::i::cells t) (L':=(· = n)) (fun c hc=>by rcases hc with rfl | rfl <;> simp) (fun _ h=>h) (Int.le_refl _)).trans ((hc3.mono (T:=fun c=>c∈n::i::cells t) (fun c hc=>?_) (Int.le_refl _)).pL)).mono (fun _ h=>h) (fun _ h=>h) (rK ?_) |>.to (by omega)
   ·rcases hc with hc | hc
    ·simp [mV hc]
    ·simp only [aO,List.append_nil,List.mem_cons,List.not_mem_nil,or_false] at hc
     simp [hc]
   ·have e1:rk (node n i e LT.nil LT.nil) = 1:=rfl
    rw [e1];omega
theorem zE (hA:aA w0 F M (aF a α)) {n i:Nat} {e:cY} {l s:LT} (hr:fA α (-1) (node n i e l s)) (fS:(cells (node n i e l s)).Nodup) (hln:Ln (node n i e l s)) (hod:Od (node n i e l s)) {m:Nat} (hm:(bW (node n i e l s)).length≤m)
  (h:∀ M' β t',aA w0 F M' (aF a β)→Hp β t'.root t'→(bW t').Perm (bW l ++ bW s)→(cells t').Perm (cells l ++ cells s)→AS.lJ (fun c=>c∈cells (node n i e l s)) (· = n) (-1) (34 * bl m + 10) α β→β.get i 9 = -1∧β.get i 7 = e.1∧β.get i 8 = e.2→R (.tuple #[.int .i64 t'.root,.int .i64 (i:Int)]) M') :
  C PP w0 Id.iD #[.pointer (some ⟨a,0,none⟩),.int .i64 (n:Int)] R M:=by
 apply iD.go
 intro aB H
 unfold iD.T aL
 have hI:=hA.inv
 simp only [go_sem,Option.isNone_some,mY]
 refine wJ hA ?_
 rw [AS.sZ,hr.1.ln]
 simp only [go_sem,Bool.not_true,mY]
 refine Eq.mpr (H.J1 ..) ?_
 unfold iD.J1.T aL
 obtain ⟨g1,g2,g3,g4,g5,g6,g7,g8⟩:=hr
 have hnd0:=fS
 simp only [cells,List.nodup_cons,List.mem_cons,List.mem_append,not_or] at fS
 obtain ⟨⟨a1,a2,a3⟩,⟨b1,b2⟩,hn2⟩:=fS
 have hk:(bW l).length + (bW s).length≤(bW l).length + (bW s).length:=Nat.le_refl _
 have hml:(bW l).length≤m∧(bW s).length≤m:=by simp only [bW,List.length_cons,List.length_append] at hm;omega
 have hbl:=tZ hln.2.1 hml.1
 have hbs:=tZ hln.2.2 hml.2
 have kids:∀ (K:VP),(∀ M' β,aA w0 F M' (aF a β)→fA β (-1) (mO ((bW l).length + (bW s).length) l s)→AS.nM (fun c=>c∈aO l∨c∈aO s) (34 * bl m + 3) α β→K (.int .i64 (mO ((bW l).length + (bW s).length) l s).root) M')→C PP w0 Id.n9 #[.pointer (some ⟨a,0,none⟩),.int .i64 (n:Int)] K M:=by
  intro K hK
  apply n9.go
  unfold n9.T aL
  refine eT hA fun M1 hA1=>?_
  rw [show α.fN (n:Int) 2 = l.root from AS.j5 hI (f:=2) g1.ln (by omega) g4 g7.aBV]
  simp only [go_sem]
  refine eT hA1 fun M2 hA2=>?_
  rw [show α.tick.fN (n:Int) 3 = s.root from AS.j5 (α:=α.tick) (AS.p4 hI) (f:=3) g1.ln (by omega) g5 g8.aBV]
  simp only [go_sem]
  have s2:AS.Sm 2 α α.tick.tick:=(AS.aN.trans AS.aN).mono (by omega)
  refine rF (t:=l) (s:=s) hA2 (g7.lN (S:=fun _=>False) s2.lN fun _ _ h=>h) (g8.lN (S:=fun _=>False) s2.lN fun _ _ h=>h) hn2 hk fun M3 β hB hrep hc=>?_
  simp only [go_sem]
  exact hK M3 β hB hrep ((s2.lN.trans hc).mono (fun _ h=>h) (by omega))
 refine kids _ fun M1 β hB hrep hc=>?_
 simp only [go_sem]
 have hits:=oX _ l s hk
 have hcel:=nK _ l s hk
 have hln':=uE ((bW l).length + (bW s).length) l s hln.2.1 hln.2.2
 have hod':=tQ _ l s hk hod.2.2.1 hod.2.2.2 fun x hx y hy e=>(List.nodup_append.1 hn2).2.2 _ (oH hx) _ (oH hy) e
 have hndm:(cells (mO ((bW l).length + (bW s).length) l s)).Nodup:=hcel.nodup_iff.2 hn2
 generalize mO ((bW l).length + (bW s).length) l s = t1 at hrep hits hcel hln' hod' hndm ⊢
 have hmem:∀ c,c∈cells t1→c∈cells l∨c∈cells s:=fun c hc=>List.mem_append.1 (hcel.mem_iff.1 hc)
 have hset:∃ γ,(β.lS t1.root 0 (-1)).tick = γ∧fA γ (-1) t1∧AS.nM (fun c=>c∈cells l∨c∈cells s) 1 β γ:=by
  refine ⟨_,rfl,?_,?_⟩
  ·cases ht:t1 with
   | nil=>trivial
   | node n' i' e' l' s' =>
    rw [ht] at hrep hndm
    rw [show (LT.node n' i' e' l' s').root = (n':Int) from rfl,show β.lS (n':Int) 0 (-1) = β.put n' 0 (-1) from AS.cO (f:=0) hrep.1.ln (by omega) _]
    refine (hrep.up (β:=β.put n' 0 (-1)) hndm (fun x hx=>?_) (fun x hx f hf=>?_) (fun x _=>rfl)).lN (S:=fun _=>False) AS.aN.lN (fun _ _ h=>h)
    ·have:x = n':=by simp only [LT.root] at hx;omega
     rw [AS.eN,if_pos ⟨this,rfl⟩]
    ·rw [AS.eN,if_neg (fun e:x = n'∧f = 0=>by rcases hf with hf | hf;exact hf (by simp only [LT.root];omega);exact hf e.2)]
  ·cases ht:t1 with
   | nil =>
    rw [show LT.nil.root = -1 from rfl,AS.aGw AS.wC]
    exact AS.aN.lN
   | node n' i' e' l' s' =>
    rw [ht] at hrep hmem
    rw [show (LT.node n' i' e' l' s').root = (n':Int) from rfl,show β.lS (n':Int) 0 (-1) = β.put n' 0 (-1) from AS.cO (f:=0) hrep.1.ln (by omega) _]
    exact (((AS.nM.refl (S:=fun c=>c∈cells l∨c∈cells s) (α:=β)).put (hmem n' (by simp [cells]))).tick).mono (fun _ h=>h) (by omega)
 obtain ⟨γ,hγ,hrγ,hcγ⟩:=hset
 refine gV hB fun M2 hB2=>?_
 rw [hγ] at hB2
 simp only [go_sem]
 have hc2:AS.nM (fun c=>c∈cells l∨c∈cells s) (34 * bl m + 4) α γ:=((hc.mono (fun c h=>by rcases h with h | h;exact .inl (mV h);exact .inr (mV h)) (Int.le_refl _)).trans hcγ).mono (fun _ h=>h) (by omega)
 have hnn:¬ (n∈cells l∨n∈cells s):=by rintro (h | h);exact a2 h;exact a3 h
 have hii:¬ (i∈cells l∨i∈cells s):=by rintro (h | h);exact b1 h;exact b2 h
 have hNd:γ.Nd n i e:=g1.congr (hc2.get n hnn) (hc2.get i hii) (by rw [hc2.live]) (by rw [hc2.live])
 refine aEl hB2 hNd fun M3 δ hB3 hs3=>?_
 simp only [go_sem]
 have hin:i≠n:=fun e=>a1 e.symm
 have hIγ:=hB2.inv
 have he3:AS.lJ (fun c=>c∈cells (node n i e l s)) (· = n) (-1) 3 γ δ:=((((AS.aCt (S:=fun c=>c∈cells (node n i e l s)) (L:=(· = n)) (α:=γ) (c:=i) (f:=9) (v := -1) (by simp [cells])).trans (AS.pR (AS.aCJ hIγ i 9 (-1)) hNd.ln rfl)).trans hs3.pL).mono (fun _ h=>h) (fun _ h=>h) (by omega)).to (by omega)
 refine h M3 δ t1 hB3 ⟨rfl,hrγ.congr (fun c hc f=>?_) (fun c hc=>?_),hndm,hln',hod'⟩ hits hcel (((hc2.mono (T:=fun c=>c∈cells (node n i e l s)) (fun c h=>by rcases h with h | h <;> simp [cells,h]) (Int.le_refl _)).pL.trans he3).mono (fun _ h=>h) (fun _ h=>h) (by omega) |>.to (by omega)) ⟨?_,?_,?_⟩
 ·have:c≠i:=fun e=>hii (e▸hmem c hc)
  rw [hs3.get]
  show (if c = i∧f = 9 then (-1:Int) else γ.get c f) = _
  rw [if_neg (fun e=>this e.1)]
 ·have:c≠n:=fun e=>hnn (e▸hmem c hc)
  rw [hs3.live]
  show (if c = n then false else γ.live c) = _
  rw [if_neg this]
 ·rw [hs3.get]
  show (if i = i∧9 = 9 then (-1:Int) else γ.get i 9) = _
  rw [if_pos ⟨rfl,rfl⟩]
 ·rw [hs3.get]
  show (if i = i∧7 = 9 then (-1:Int) else γ.get i 7) = _
  rw [if_neg (by omega)];exact hNd.k
 ·rw [hs3.get]
  show (if i = i∧8 = 9 then (-1:Int) else γ.get i 8) = _
  rw [if_neg (by omega)];exact hNd.s
theorem aGs (hA:aA w0 F M (aF a α)) {r:Int} {t:LT} (hp:Hp α r t)
  (h0:t = .nil→R (.tuple #[.int .i64 (-1),.int .i64 (-1)]) M)
  (h:∀ x L,(bW t).Perm (x::L)→(∀ y∈L,Bf x y)→∀ M' β t' n,n∈aO t→aA w0 F M' (aF a β)→Hp β t'.root t'→(bW t').Perm L→(∀ c∈cells t',c∈cells t)→x.1 ∉ cells t'→AS.lJ (fun c=>c∈cells t) (· = n) (-1) (dK ((bW t).length)) α β→β.get x.1 9 = -1∧β.get x.1 7 = x.2.1∧β.get x.1 8 = x.2.2∧β.live x.1 = true→R (.tuple #[.int .i64 t'.root,.int .i64 (x.1:Int)]) M') :
  C PP w0 Id.iD #[.pointer (some ⟨a,0,none⟩),.int .i64 r] R M:=by
 rw [hp.r]
 cases t with
 | nil =>
  apply iD.go
  intro aB H
  unfold iD.T aL
  simp only [go_sem,Option.isNone_some,mY,LT.root]
  refine wJ hA ?_
  rw [AS.wC]
  simp only [go_sem,Bool.not_false,dY]
  exact h0 rfl
 | node n i e l s =>
  have fS:=hp.nd
  simp only [cells,List.nodup_cons,List.mem_cons,List.mem_append,not_or] at fS
  refine zE hA hp.rep hp.nd hp.ln hp.od (Nat.le_refl _) fun M1 β t' hB hp' hi hc he hg=>?_
  have hin:i≠n:=fun e=>fS.1.1 e.symm
  refine h (i,e) (bW l ++ bW s) (List.Perm.refl _) (aH4 hp.od) M1 β t' n (by simp [aO]) hB hp' hi (fun c hm=>?_) (fun hm=>?_) (he.mono (fun _ h=>h) (fun _ h=>h) (rK (by omega))) ⟨hg.1,hg.2.1,hg.2.2,?_⟩
  ·have:=List.mem_append.1 (hc.mem_iff.1 hm)
   simp [cells,this]
  ·have:=List.mem_append.1 (hc.mem_iff.1 hm)
   rcases this with h | h
   ·exact fS.2.1.1 h
   ·exact fS.2.1.2 h
  ·rw [he.live i hin];exact hp.rep.1.li
theorem zH:∀ (c:Cx) (cs:List Cx) (x:LT),∃ d:Nat,d∈fK (c::cs)∧(iF (c::cs) x).root = (d:Int)
 | c,[],x=>⟨c.n,by simp [fK],Cx.aA3 c x⟩
 | c,d::ds,x=>by
  obtain ⟨m,h1,h2⟩:=zH d ds (c.put x)
  exact ⟨m,by simp only [fK,List.mem_cons,List.mem_append] at h1 ⊢;exact .inr (.inr (.inr h1)),h2⟩
theorem tJ (cs:List Cx) (n i:Nat) (e:cY) (l s:LT):(bW (iF cs (node n i e l s))).Perm ((i,e)::(yM cs ++ (bW l ++ bW s))):=(aAu _ _).trans List.perm_middle
theorem aEQ (cs:List Cx) (n i:Nat) (e e':cY) (l s:LT):(cells (iF cs (node n i e l s))).Perm (cells (iF cs (node n i e' l s))):=(iZ cs (node n i e l s)).trans (iZ cs (node n i e' l s)).symm
theorem aEP (hA:aA w0 F M (aF a α)) {r:Int} {t:LT} {i:Nat} {e e':cY} (hF:HpF α r t i e e')
  (h:∀ M' β t',aA w0 F M' (aF a β)→Hp β t'.root t'→(∀ L,(bW t).Perm ((i,e)::L)→(bW t').Perm ((i,e')::L))→(cells t').Perm (cells t)→AS.lJ (fun c=>c∈cells t) (fun _=>False) 0 (dK ((bW t).length)) α β→R (.int .i64 t'.root) M') :
  C PP w0 Id.gO #[.pointer (some ⟨a,0,none⟩),.int .i64 r,.int .i64 (i:Int)] R M:=by
 obtain ⟨cs,n,l,s,rfl,hr,hrep,fS,hln,hoc,hod⟩:=hF
 apply gO.go
 intro aB H
 unfold gO.T aL
 have hI:=hA.inv
 simp only [go_sem,Option.isNone_some,mY]
 obtain ⟨hrc,hrt⟩:=qZ.1 hrep
 have hcl:=aEQ cs n i e e' l s
 have hnd':=hcl.nodup_iff.1 fS
 have hln':Ln (iF cs (node n i e' l s)):=by
  obtain ⟨g1,g2⟩:=wH.1 hln
  exact wH.2 ⟨g1,g2⟩
 have hperm:∀ t',(bW t').Perm ((i,e')::(yM cs ++ (bW l ++ bW s)))→∀ L,(bW (iF cs (node n i e l s))).Perm ((i,e)::L)→(bW t').Perm ((i,e')::L):=fun t' ht L hL =>
  ht.trans (List.Perm.cons _ (List.Perm.cons_inv ((tJ cs n i e l s).symm.trans hL)))
 refine yK hA fun M1 hA1=>?_
 rw [show α.fN (i:Int) 9 = (n:Int) from AS.dE (f:=9) hrt.1.li (by omega) hrt.1.nd (AS.cE hI hrt.1.ln)]
 simp only [go_sem,fB]
 rw [if_neg (by omega)]
 cases cs with
 | nil =>
  have hr':r = (n:Int):=hr
  rw [if_pos hr'.symm]
  refine (hr'▸h M1 α.tick (node n i e' l s) hA1 ⟨rfl,hrep.lN (S:=fun _=>False) AS.aN.lN (fun _ _ h=>h),hnd',hln',hod⟩ (hperm _ (List.Perm.refl _)) hcl.symm (AS.aN.pL.mono (fun _ h=>h) (fun _ h=>h) (rK (by omega))))
 | cons c cs =>
  obtain ⟨d,hd1,hd2⟩:=zH c cs (node n i e l s)
  obtain ⟨q1,q2,q3⟩:=List.nodup_append.1 ((iZ (c::cs) (node n i e l s)).nodup_iff.1 fS)
  have hdn:d≠n:=q3 d hd1 n (by simp [cells])
  rw [if_neg (fun e=>hdn (by rw [hr,hd2] at e;omega))]
  refine eT hA1 fun M2 hA2=>?_
  have hc1:=hrc.1
  rw [show α.tick.fN (n:Int) 0 = (c.n:Int) from AS.dE (α:=α.tick) (f:=0) hrt.1.ln (by omega) hrt.2.1 (AS.cE hI hc1.ln)]
  simp only [go_sem]
  (rw [if_neg (by omega)];refine Eq.mpr (H.J1 ..) ?_)
  unfold gO.J1.T aL
  have s2:AS.Sm 2 α α.tick.tick:=(AS.aN.trans AS.aN).mono (by omega)
  have hlen:(bW (iF (c::cs) (node n i e' l s))).length = (bW (iF (c::cs) (node n i e l s))).length:=by
   rw [(tJ _ _ _ _ _ _).length_eq,(tJ _ _ _ _ _ _).length_eq];rfl
  refine aAd hA2 (hrep.lN (S:=fun _=>False) s2.lN (fun _ _ h=>h)) hnd' hln' (m:=(bW (iF (c::cs) (node n i e l s))).length) (by omega) fun M3 β hB hr1 hr2 hcb=>?_
  have hroot:(rp (c::cs) nil).root = r:=by rw [aCj (c::cs) nil (node n i e l s) (by simp),hr]
  obtain ⟨hl1,hl2⟩:=wH.1 hln'
  have hrpln:Ln (rp (c::cs) nil):=aH6 hl1.o trivial
  have hrpod:Od (rp (c::cs) nil):=aHI hoc trivial (fun x hx=>by cases hx)
  have hrpi:=aEo (c::cs) nil
  have hrpc:=aBm (c::cs) nil
  rw [show bW nil = [] from rfl,List.append_nil] at hrpi
  rw [show cells nil = [] from rfl,List.append_nil] at hrpc
  have hrpn:∀ x,x∈aO (rp (c::cs) nil)→x∈fK (c::cs):=fun x hx=>hrpc.mem_iff.1 (mV hx)
  have hcc:(cells (rp (c::cs) nil) ++ cells (node n i e' l s)).Nodup:=by
   refine (hrpc.append_right _).nodup_iff.2 ?_
   exact (iZ (c::cs) (node n i e' l s)).nodup_iff.1 hnd'
  have htl:=(tJ (c::cs) n i e l s).length_eq
  simp only [List.length_cons,List.length_append] at htl
  have hk:(bW (rp (c::cs) nil)).length + (bW (node n i e' l s)).length≤(bW (iF (c::cs) (node n i e l s))).length:=by
   rw [hrpi.length_eq,htl];simp only [bW,List.length_cons,List.length_append];omega
  have hk1:=tZ hrpln (m:=(bW (iF (c::cs) (node n i e l s))).length) (by omega)
  have hk2:=tZ hl2 (m:=(bW (iF (c::cs) (node n i e l s))).length) (by omega)
  rw [←hroot]
  refine rF (t:=rp (c::cs) nil) (s:=node n i e' l s) hB hr1 hr2 hcc hk fun M4 γ hB4 hr4 hc4=>?_
  simp only [go_sem]
  have hits:=oX _ _ _ hk
  have hcel:=nK _ _ _ hk
  have hc:∀ x,x∈fK (c::cs)∨x∈cells (node n i e l s)→x∈cells (iF (c::cs) (node n i e l s)):=fun x hx=>(iZ (c::cs) (node n i e l s)).mem_iff.2 (List.mem_append.2 hx)
  refine h M4 γ _ hB4 ⟨rfl,hr4,hcel.nodup_iff.2 hcc,uE _ _ _ hrpln hl2,tQ _ _ _ hk hrpod hod fun x hx y hy e0=>?_⟩ (hperm _ ?_) ?_ ?_
  ·exact (List.nodup_append.1 hcc).2.2 _ (oH hx) _ (oH hy) e0
  ·exact (hits.trans (hrpi.append_right _)).trans List.perm_middle
  ·exact hcel.trans ((hrpc.append_right _).trans (iZ (c::cs) (node n i e l s)).symm)
  ·refine (((s2.lN.trans (hcb.mono (T:=fun x=>x∈cells (iF (c::cs) (node n i e l s))) (fun x hx=>hc x ?_) (Int.le_refl _))).trans (hc4.mono (fun x hx=>hc x ?_) (Int.le_refl _))).pL).mono (fun _ h=>h) (fun _ h=>h) (rK ?_)
   ·rcases hx with hx | rfl
    ·exact .inl (yQ hx)
    ·exact .inr (by simp [cells])
   ·rcases hx with hx | hx
    ·exact .inl (hrpn x hx)
    ·exact .inr (mV hx)
   ·omega
theorem aGH (hA:aA w0 F M (aF a α)) {r:Int} {t:LT} (hp:Hp α r t) {i:Nat} {e:cY} (hm:(i,e)∈bW t)
  (h:∀ L,(bW t).Perm ((i,e)::L)→∀ M' β t' n,n∈aO t→aA w0 F M' (aF a β)→Hp β t'.root t'→(bW t').Perm L→(∀ c∈cells t',c∈cells t)→i ∉ cells t'→n ∉ cells t'→AS.lJ (fun c=>c∈cells t) (· = n) (-1) (dK ((bW t).length)) α β→β.get i 9 = -1∧β.live i = true→R (.int .i64 t'.root) M') :
  C PP w0 Id.jM #[.pointer (some ⟨a,0,none⟩),.int .i64 r,.int .i64 (i:Int)] R M:=by
 obtain ⟨cs,n,l,s,rfl⟩:=find hm
 apply jM.go
 intro aB H
 unfold jM.T aL
 have hI:=hA.inv
 have hr:=hp.r
 simp only [go_sem,Option.isNone_some,mY]
 obtain ⟨hrc,hrt⟩:=qZ.1 hp.rep
 obtain ⟨hl1,hl2⟩:=wH.1 hp.ln
 obtain ⟨ho1,ho2,ho3⟩:=aCY.1 hp.od
 obtain ⟨q1,q2,q3⟩:=List.nodup_append.1 ((iZ cs (node n i e l s)).nodup_iff.1 hp.nd)
 have htl:=(tJ cs n i e l s).length_eq
 simp only [List.length_cons,List.length_append] at htl
 have hml:(bW (node n i e l s)).length≤(bW (iF cs (node n i e l s))).length:=by
  rw [htl];simp only [bW,List.length_cons,List.length_append];omega
 have hc:∀ x,x∈fK cs∨x∈cells (node n i e l s)→x∈cells (iF cs (node n i e l s)):=fun x hx=>(iZ cs (node n i e l s)).mem_iff.2 (List.mem_append.2 hx)
 have hnn:n∈aO (iF cs (node n i e l s)):=(aC9 cs (node n i e l s)).mem_iff.2 (by simp [aO])
 have q2':=q2
 simp only [cells,List.nodup_cons,List.mem_cons,List.mem_append,not_or] at q2'
 obtain ⟨⟨a1,a2,a3⟩,⟨b1,b2⟩,_⟩:=q2'
 refine yK hA fun M1 hA1=>?_
 rw [show α.fN (i:Int) 9 = (n:Int) from AS.dE (f:=9) hrt.1.li (by omega) hrt.1.nd (AS.cE hI hrt.1.ln)]
 simp only [go_sem,fB]
 rw [if_neg (by omega)]
 cases cs with
 | nil =>
  have hr':r = (n:Int):=hr
  rw [if_pos hr'.symm]
  refine zE hA1 ((show fA α (-1) (node n i e l s) from hp.rep).lN (S:=fun _=>False) AS.aN.lN (fun _ _ h=>h)) q2 hl2 ho2 hml fun M2 β t' hB hp' hi hcel he hg=>?_
  simp only [go_sem]
  have hmem:∀ c,c∈cells t'→c∈cells l∨c∈cells s:=fun c hc=>List.mem_append.1 (hcel.mem_iff.1 hc)
  refine h (bW l ++ bW s) (List.Perm.refl _) M2 β t' n hnn hB hp' hi (fun c hx=>?_) (fun hx=>?_) (fun hx=>?_) ((AS.aN.pL.trans he).mono (fun _ h=>h) (fun _ h=>h) (rK ?_) |>.to (by omega)) ⟨hg.1,?_⟩
  ·have:=hmem c hx
   exact hc c (.inr (by simp [cells,this]))
  ·rcases hmem i hx with h | h
   ·exact b1 h
   ·exact b2 h
  ·rcases hmem n hx with h | h
   ·exact a2 h
   ·exact a3 h
  ·omega
  ·rw [he.live i (fun e=>a1 e.symm)];exact hrt.1.li
 | cons c cs =>
  obtain ⟨d,hd1,hd2⟩:=zH c cs (node n i e l s)
  have hdn:d≠n:=q3 d hd1 n (by simp [cells])
  rw [if_neg (fun e=>hdn (by rw [hr,hd2] at e;omega))]
  refine eT hA1 fun M2 hA2=>?_
  have hc1:=hrc.1
  rw [show α.tick.fN (n:Int) 0 = (c.n:Int) from AS.dE (α:=α.tick) (f:=0) hrt.1.ln (by omega) hrt.2.1 (AS.cE hI hc1.ln)]
  simp only [go_sem]
  (rw [if_neg (by omega)];refine Eq.mpr (H.J1 ..) ?_)
  unfold jM.J1.T aL
  have s2:AS.Sm 2 α α.tick.tick:=(AS.aN.trans AS.aN).mono (by omega)
  refine aAd hA2 (hp.rep.lN (S:=fun _=>False) s2.lN (fun _ _ h=>h)) hp.nd hp.ln (Nat.le_refl _) fun M3 β hB hr1 hr2 hcb=>?_
  have hroot:(rp (c::cs) nil).root = r:=by rw [aCj (c::cs) nil (node n i e l s) (by simp),hr]
  have hrpln:Ln (rp (c::cs) nil):=aH6 hl1.o trivial
  have hrpod:Od (rp (c::cs) nil):=aHI ho1 trivial (fun x hx=>by cases hx)
  have hrpi:=aEo (c::cs) nil
  have hrpc:=aBm (c::cs) nil
  rw [show bW nil = [] from rfl,List.append_nil] at hrpi
  rw [show cells nil = [] from rfl,List.append_nil] at hrpc
  have hrpn:∀ x,x∈aO (rp (c::cs) nil)→x∈fK (c::cs):=fun x hx=>hrpc.mem_iff.1 (mV hx)
  refine zE hB hr2 q2 hl2 ho2 hml fun M4 γ t' hB4 hp' hi hcel he hg=>?_
  simp only [go_sem]
  have hmem:∀ c,c∈cells t'→c∈cells l∨c∈cells s:=fun c hc=>List.mem_append.1 (hcel.mem_iff.1 hc)
  have hrpg:fA γ (-1) (rp (c::cs) nil):=hr1.congr (fun x hx f=>he.get x (fun hx2=>q3 x (hrpc.mem_iff.1 hx) x hx2 rfl) f) (fun x hx=>he.live x (fun e0=>q3 x (hrpc.mem_iff.1 hx) n (by simp [cells]) e0))
  have hcc:(cells (rp (c::cs) nil) ++ cells t').Nodup:=by
   refine (hrpc.append hcel).nodup_iff.2 ?_
   rw [List.nodup_append]
   refine ⟨q1,hcel.nodup_iff.1 hp'.nd,fun x hx y hy e0=>q3 x hx y ?_ e0⟩
   have:=List.mem_append.1 hy
   simp [cells,this]
  have hk:(bW (rp (c::cs) nil)).length + (bW t').length≤(bW (iF (c::cs) (node n i e l s))).length:=by
   rw [hrpi.length_eq,htl,hi.length_eq];simp only [List.length_append];omega
  have hk1:=tZ hrpln (m:=(bW (iF (c::cs) (node n i e l s))).length) (by omega)
  have hk2:=tZ hp'.ln (m:=(bW (iF (c::cs) (node n i e l s))).length) (by omega)
  rw [←hroot]
  refine rF (t:=rp (c::cs) nil) (s:=t') hB4 hrpg hp'.rep hcc hk fun M5 δ hB5 hr5 hc5=>?_
  simp only [go_sem]
  have hits:=oX _ _ _ hk
  have hcel5:=nK _ _ _ hk
  have hm5:∀ x,x∈cells (mO (bW (iF (c::cs) (node n i e l s))).length (rp (c::cs) nil) t')→x∈fK (c::cs)∨x∈cells l∨x∈cells s:=fun x hx=>by
   rcases List.mem_append.1 (hcel5.mem_iff.1 hx) with hx | hx
   ·exact .inl (hrpc.mem_iff.1 hx)
   ·exact .inr (hmem x hx)
  have hiN:i ∉ fK (c::cs):=fun hx=>q3 i hx i (by simp [cells]) rfl
  have hnN:n ∉ fK (c::cs):=fun hx=>q3 n hx n (by simp [cells]) rfl
  have hi2:¬ (i∈aO (rp (c::cs) nil)∨i∈aO t'):=by
   rintro (h9 | h9)
   ·exact hiN (hrpn i h9)
   ·rcases hmem i (mV h9) with h8 | h8
    ·exact b1 h8
    ·exact b2 h8
  refine h (yM (c::cs) ++ (bW l ++ bW s)) (tJ _ _ _ _ _ _) M5 δ _ n hnn hB5 ⟨rfl,hr5,hcel5.nodup_iff.2 hcc,uE _ _ _ hrpln hp'.ln,tQ _ _ _ hk hrpod hp'.od fun x hx y hy e0=>?_⟩ (hits.trans (hrpi.append hi)) (fun x hx=>?_) (fun hx=>?_) (fun hx=>?_) ?_ ⟨?_,?_⟩
  ·exact (List.nodup_append.1 hcc).2.2 _ (oH hx) _ (oH hy) e0
  ·rcases hm5 x hx with hx | hx | hx
   ·exact hc x (.inl hx)
   ·exact hc x (.inr (by simp [cells,hx]))
   ·exact hc x (.inr (by simp [cells,hx]))
  ·rcases hm5 i hx with hx | hx | hx
   ·exact hiN hx
   ·exact b1 hx
   ·exact b2 hx
  ·rcases hm5 n hx with hx | hx | hx
   ·exact hnN hx
   ·exact a2 hx
   ·exact a3 hx
  ·have e1:AS.lJ (fun x=>x∈cells (iF (c::cs) (node n i e l s))) (· = n) 0 (9 * bl (bW (iF (c::cs) (node n i e l s))).length + 18) α β:=((s2.lN.trans hcb).mono (fun x hx=>by
     rcases hx with hx | rfl
     ·exact hc x (.inl (yQ hx))
     ·exact hc x (.inr (by simp [cells]))) (by omega)).pL
   have e2:=he.mono (S':=fun x=>x∈cells (iF (c::cs) (node n i e l s))) (L':=(· = n)) (fun x hx=>hc x (.inr hx)) (fun _ h=>h) (Int.le_refl _)
   have e3:AS.lJ (fun x=>x∈cells (iF (c::cs) (node n i e l s))) (· = n) 0 _ γ δ:=(hc5.mono (fun x hx=>by
     rcases hx with hx | hx
     ·exact hc x (.inl (hrpn x hx))
     ·have:=hmem x (mV hx)
      exact hc x (.inr (by simp [cells,this]))) (Int.le_refl _)).pL
   exact (((e1.trans e2).trans e3).mono (fun _ h=>h) (fun _ h=>h) (rK (by omega))).to (by omega)
  ·rw [hc5.get i hi2];exact hg.1
  ·rw [hc5.live,he.live i (fun e0=>a1 e0.symm),hcb.live]
   exact hrt.1.li
theorem aEb (hA:aA w0 F M (aF a α)) {r s:Int} {t u:LT} (hp:Hp α r t) (hq:Hp α s u) (hd:(cells t ++ cells u).Nodup)
  (h:∀ M' β t',aA w0 F M' (aF a β)→Hp β t'.root t'→(bW t').Perm (bW t ++ bW u)→(cells t').Perm (cells t ++ cells u)→AS.lJ (fun c=>c∈cells t∨c∈cells u) (fun _=>False) 0 (dK ((bW t).length + (bW u).length)) α β→R (.int .i64 t'.root) M') :
  C PP w0 Id.oE #[.pointer (some ⟨a,0,none⟩),.int .i64 r,.int .i64 s] R M:=by
 apply oE.go
 unfold oE.T aL
 simp only [go_sem,Option.isNone_some,mY]
 rw [hp.r,hq.r]
 have hk:(bW t).length + (bW u).length≤(bW t).length + (bW u).length:=Nat.le_refl _
 refine rF (t:=t) (s:=u) hA hp.rep hq.rep hd hk fun M1 β hB hr hc=>?_
 simp only [go_sem]
 have h1:=tZ hp.ln (m:=(bW t).length + (bW u).length) (by omega)
 have h2:=tZ hq.ln (m:=(bW t).length + (bW u).length) (by omega)
 have hcel:=nK _ _ _ hk
 refine h M1 β _ hB ⟨rfl,hr,hcel.nodup_iff.2 hd,uE _ _ _ hp.ln hq.ln,tQ _ _ _ hk hp.od hq.od fun x hx y hy e0=>?_⟩ (oX _ _ _ hk) hcel ((hc.mono (fun x hx=>?_) (rK (by omega))).pL)
 ·exact (List.nodup_append.1 hd).2.2 _ (oH hx) _ (oH hy) e0
 ·rcases hx with hx | hx
  ·exact .inl (mV hx)
  ·exact .inr (mV hx)
theorem aF5 (hA:aA w0 F M (aF a α)) {r:Int} {t:LT} (hp:Hp α r t)
  (h0:t = .nil→∀ M' β,aA w0 F M' (aF a β)→AS.Sm 1 α β→R (.int .i64 (-1)) M')
  (h:∀ x L,(bW t).Perm (x::L)→(∀ y∈L,Bf x y)→∀ M' β,aA w0 F M' (aF a β)→AS.Sm 1 α β→R (.int .i64 (x.1:Int)) M') :
  C PP w0 Id.qR #[.pointer (some ⟨a,0,none⟩),.int .i64 r] R M:=by
 apply qR.go
 unfold qR.T aL
 simp only [go_sem,Option.isNone_some,mY]
 rw [hp.r]
 refine eT hA fun M1 hA1=>?_
 cases t with
 | nil =>
  rw [show LT.nil.root = -1 from rfl,AS.aEg AS.wC]
  simp only [go_sem]
  exact h0 rfl M1 _ hA1 AS.aN
 | node n i e l s =>
  rw [show (node n i e l s).root = (n:Int) from rfl,show α.fN (n:Int) 6 = (i:Int) from AS.dE (f:=6) hp.rep.1.ln (by omega) hp.rep.1.it (AS.cE hA.inv hp.rep.1.li)]
  simp only [go_sem]
  exact h (i,e) (bW l ++ bW s) (List.Perm.refl _) (aH4 hp.od) M1 _ hA1 AS.aN
end
end HL
namespace HL
inductive ST where
 | nil
 | node (n k:Nat) (c s:ST)
structure Tn where
 n:Nat
 k:Nat
 c:ST
namespace ST
def root:ST→Int
 | nil => -1
 | node n _ _ _=>(n:Int)
def aO:ST→List Nat
 | nil=>[]
 | node n _ c s=>n::(aO c ++ aO s)
def fo:List Tn→ST
 | []=>nil
 | t::l=>node t.n t.k t.c (fo l)
def dA:ST→List Tn
 | nil=>[]
 | node n k c s=>⟨n,k,c⟩::dA s
theorem aBq:∀ (b:ST),fo (dA b) = b
 | nil=>rfl
 | node n k c s=>by simp only [dA,fo,aBq s]
theorem aIx:∀ (l:List Tn),dA (fo l) = l
 | []=>rfl
 | t::l=>by simp only [dA,fo,aIx l]
def eR (t:Tn):List Nat:=t.n::aO t.c
def aQ (l:List Tn):List Nat:=l.flatMap eR
theorem mR (t:Tn) (l:List Tn):aQ (t::l) = t.n::(aO t.c ++ aQ l):=rfl
theorem lI (l m:List Tn):aQ (l ++ m) = aQ l ++ aQ m:=List.flatMap_append
theorem qH:∀ (l:List Tn),aO (fo l) = aQ l
 | []=>rfl
 | t::l=>by rw [mR,fo,aO,qH l]
theorem bP (b:ST):aQ (dA b) = aO b:=by rw [←qH,aBq]
theorem tI {l m:List Tn} (h:l.Perm m):(aQ l).Perm (aQ m):=h.flatMap_right _
theorem yX:∀ {b:ST} {n:Nat},b.root = (n:Int)→n∈aO b
 | nil,n,h=>by simp only [root] at h;omega
 | node m k c s,n,h=>by
  simp only [root] at h
  have:m = n:=by omega
  subst this
  simp [aO]
theorem eJ {l:List Tn} {x:Nat}:x∈aQ l↔∃ t∈l,x∈eR t:=List.mem_flatMap
def St (α:AS):Int→ST→Prop
 | _,nil=>True
 | up,node n k c s=>α.get n 0 = up∧α.get n 1 = c.root∧α.get n 3 = s.root∧α.get n 4 = (k:Int)∧St α n c∧St α up s
def yV (α:AS) (t:Tn):Prop:=α.get t.n 1 = t.c.root∧α.get t.n 4 = (t.k:Int)∧St α t.n t.c
theorem St.congr {α β:AS}:∀ {b:ST} {up:Int},St α up b→(∀ n∈aO b,∀ f,f≠6→β.get n f = α.get n f)→St β up b
 | nil,_,_,_=>trivial
 | node n k c s,up,⟨h1,h2,h3,h4,h5,h6⟩,hg=>by
  simp only [aO,List.mem_cons,List.mem_append] at hg
  exact ⟨(hg n (.inl rfl) 0 (by decide)).trans h1,(hg n (.inl rfl) 1 (by decide)).trans h2,(hg n (.inl rfl) 3 (by decide)).trans h3,(hg n (.inl rfl) 4 (by decide)).trans h4,
   h5.congr fun x hx=>hg x (.inr (.inl hx)),h6.congr fun x hx=>hg x (.inr (.inr hx))⟩
theorem St.lN {α β:AS} {S:Nat→Prop} {k:Int} {b:ST} {up:Int} (h:St α up b) (hc:AS.nM S k α β) (hS:∀ x∈aO b,¬ S x):St β up b :=
 h.congr fun n hn f _=>hc.get n (hS n hn) f
theorem yV.lN {α β:AS} {S:Nat→Prop} {k:Int} {t:Tn} (h:yV α t) (hc:AS.nM S k α β) (hS:∀ x∈eR t,¬ S x):yV β t :=
 ⟨(hc.get _ (hS _ List.mem_cons_self) _).trans h.1,(hc.get _ (hS _ List.mem_cons_self) _).trans h.2.1,h.2.2.lN hc fun x hx=>hS x (List.mem_cons_of_mem _ hx)⟩
theorem St.sm {α β:AS} {k:Int} {b:ST} {up:Int} (h:St α up b) (hc:AS.Sm k α β):St β up b:=h.congr fun n hn f _=>by rw [hc.get]
theorem yV.sm {α β:AS} {k:Int} {t:Tn} (h:yV α t) (hc:AS.Sm k α β):yV β t:=⟨by rw [hc.get];exact h.1,by rw [hc.get];exact h.2.1,h.2.2.sm hc⟩
theorem St.dA {α:AS}:∀ {b:ST} {up:Int},St α up b→∀ t∈dA b,yV α t
 | nil,_,_,t,ht=>by cases ht
 | node n k c s,up,⟨h1,h2,h3,h4,h5,h6⟩,t,ht=>by
  rcases List.mem_cons.1 ht with rfl | ht
  ·exact ⟨h2,h4,h5⟩
  ·exact h6.dA t ht
def Lb (α:AS) (f:Nat→cC) (N:List Nat):Prop:=∀ n∈N,α.Nd n (f n).1 (f n).2
def gS (f:Nat→cC) (N:List Nat):List cC:=N.map f
def bE (f:Nat→cC) (N:List Nat):List Nat:=N ++ N.map fun n=>(f n).1
theorem Lb.congr {α β:AS} {f:Nat→cC} {N:List Nat} (h:Lb α f N) (hg:∀ c∈bE f N,∀ g,(g = 6∨g = 7∨g = 8∨g = 9)→β.get c g = α.get c g) (hl:∀ c∈bE f N,β.live c = α.live c):Lb β f N:=fun n hn=>by
 have h1:n∈bE f N:=List.mem_append_left _ hn
 have h2:(f n).1∈bE f N:=List.mem_append_right _ (List.mem_map.2 ⟨n,hn,rfl⟩)
 have h3:=h n hn
 exact ⟨(hl _ h1).trans h3.ln,(hl _ h2).trans h3.li,(hg _ h1 6 (by simp)).trans h3.it,(hg _ h2 9 (by simp)).trans h3.nd,(hg _ h2 7 (by simp)).trans h3.k,(hg _ h2 8 (by simp)).trans h3.s⟩
theorem Lb.sm {α β:AS} {k:Int} {f:Nat→cC} {N:List Nat} (h:Lb α f N) (hs:AS.Sm k α β):Lb β f N:=h.congr (fun c _ g _=>by rw [hs.get]) (fun c _=>by rw [hs.live])
theorem Lb.sub {α:AS} {f:Nat→cC} {N N':List Nat} (h:Lb α f N) (hs:∀ n∈N',n∈N):Lb α f N':=fun n hn=>h n (hs n hn)
theorem j7 {f:Nat→cC} {N N':List Nat} (h:N.Perm N'):(bE f N).Perm (bE f N'):=h.append (h.map _)
theorem tW {f g:Nat→cC} {N:List Nat} (h:∀ n∈N,g n = f n):bE g N = bE f N:=by
 unfold bE
 rw [List.map_congr_left fun n hn=>by rw [h n hn]]
theorem qS {f g:Nat→cC} {N:List Nat} (h:∀ n∈N,g n = f n):gS g N = gS f N:=List.map_congr_left h
theorem yR (f:Nat→cC) (N N':List Nat):(bE f (N ++ N')).Perm (bE f N ++ bE f N'):=by
 unfold bE
 rw [List.map_append,List.append_assoc,List.append_assoc]
 exact (List.perm_append_comm_assoc N' _ _).append_left N
theorem iB {f:Nat→cC} {N:List Nat} (h:(bE f N).Nodup):N.Nodup:=(List.nodup_append.1 h).1
theorem kO {f:Nat→cC} {N:List Nat} (h:(bE f N).Nodup):∀ x∈N,∀ y∈N,(f x).1 = (f y).1→x = y:=by
 have h2:=(List.nodup_append.1 h).2.1
 intro x hx y hy e
 have hn:∀ {M:List Nat},(M.map fun n=>(f n).1).Nodup→∀ x∈M,∀ y∈M,(f x).1 = (f y).1→x = y:=by
  intro M
  induction M with
  | nil=>intro _ x hx;cases hx
  | cons m M ih =>
   intro hm x hx y hy e
   rw [List.map_cons,List.nodup_cons] at hm
   rcases List.mem_cons.1 hx with h1 | h1 <;> rcases List.mem_cons.1 hy with h2 | h2
   ·rw [h1,h2]
   ·exact absurd (List.mem_map.2 ⟨y,h2,by rw [←e,h1]⟩) hm.1
   ·exact absurd (List.mem_map.2 ⟨x,h1,by rw [e,h2]⟩) hm.1
   ·exact ih hm.2 x h1 y h2 e
 exact hn h2 x hx y hy e
theorem rY {f:Nat→cC} {N:List Nat} (h:(bE f N).Nodup):∀ x∈N,∀ y∈N,x≠(f y).1:=fun x hx y hy=>(List.nodup_append.1 h).2.2 x hx _ (List.mem_map.2 ⟨y,hy,rfl⟩)
def Okk (z k:Nat) (c:ST):Prop:=2 ^ k≤(aO c).length + 1∧(∀ t∈dA c,t.k < k)∧(dA c).length≤z * k∧(dA c).countP (fun t=>t.k != 0)≤k
def Ok (z:Nat):ST→Prop
 | nil=>True
 | node _ k c s=>Okk z k c∧Ok z c∧Ok z s
def wS (z:Nat) (t:Tn):Prop:=Okk z t.k t.c∧Ok z t.c
section
variable {z:Nat}
theorem aGY:∀ {l:List Tn},Ok z (fo l)↔∀ t∈l,wS z t
 | []=>by simp [fo,Ok]
 | t::l=>by
  simp only [fo,Ok,aGY (l:=l),List.mem_cons,forall_eq_or_imp,wS]
  exact ⟨fun h=>⟨⟨h.1,h.2.1⟩,h.2.2⟩,fun h=>⟨h.1.1,h.1.2,h.2⟩⟩
theorem fU {b:ST}:Ok z b↔∀ t∈dA b,wS z t:=by rw [←aGY,aBq]
def und (m w:Tn):Tn:=⟨w.n,w.k,node m.n m.k m.c w.c⟩
def lk (m w:Tn):Tn:=⟨w.n,w.k + 1,node m.n m.k m.c w.c⟩
theorem aHl {m w:Tn} (hz:1≤z) (h1:wS z m) (h2:wS z w) (e:m.k = w.k):wS z (lk m w)∧(dA (lk m w).c).length≤z * w.k + 1:=by
 obtain ⟨⟨a1,a2,a3,a4⟩,a5⟩:=h1
 obtain ⟨⟨b1,b2,b3,b4⟩,b5⟩:=h2
 rw [e] at a1
 refine ⟨⟨⟨?_,?_,?_,?_⟩,⟨by rw [e];exact ⟨a1,by rw [←e];exact a2,by rw [←e];exact a3,by rw [←e];exact a4⟩,a5,b5⟩⟩,?_⟩
 ·show 2 ^ (w.k + 1)≤(m.n::(aO m.c ++ aO w.c)).length + 1
  rw [Nat.pow_succ,List.length_cons,List.length_append];omega
 ·intro t ht
  show t.k < w.k + 1
  rcases List.mem_cons.1 ht with rfl | ht
  ·show m.k < _;omega
  ·have:=b2 t ht;omega
 ·show (_::dA w.c).length≤z * (w.k + 1)
  rw [List.length_cons,Nat.mul_succ];omega
 ·show (_::dA w.c).countP _≤w.k + 1
  rw [List.countP_cons];split <;> omega
 ·show (_::dA w.c).length≤_
  rw [List.length_cons];omega
theorem aJb {m w:Tn} (h2:wS z w) (hm:m.c = nil) (hk:m.k = 0) (hl:(dA w.c).length + 1≤z * w.k):wS z (und m w):=by
 obtain ⟨⟨b1,b2,b3,b4⟩,b5⟩:=h2
 refine ⟨⟨?_,?_,?_,?_⟩,⟨?_,?_,b5⟩⟩
 ·show 2 ^ w.k≤(m.n::(aO m.c ++ aO w.c)).length + 1
  rw [List.length_cons,List.length_append];omega
 ·intro t ht
  show t.k < w.k
  rcases List.mem_cons.1 ht with rfl | ht
  ·show m.k < _
   rw [hk]
   rcases Nat.eq_zero_or_pos w.k with e | e
   ·rw [e,Nat.mul_zero] at hl;omega
   ·exact e
  ·exact b2 t ht
 ·show (_::dA w.c).length≤z * w.k
  rw [List.length_cons];omega
 ·show (_::dA w.c).countP _≤w.k
  rw [List.countP_cons_of_neg (by simp [hk])]
  exact b4
 ·unfold Okk
  rw [hm,hk]
  exact ⟨by simp [aO],fun t ht=>(by cases ht),by simp [dA],by simp [dA]⟩
 ·rw [hm];trivial
theorem aEW {n:Nat}:wS z ⟨n,0,nil⟩:=⟨⟨by simp [aO],fun t ht=>(by cases ht),by simp [dA],by simp [dA]⟩,trivial⟩
theorem aHZ {t:Tn} (h:wS z t) (hk:t.k = 0):t.c = nil:=by
 have h3:=h.1.2.2.1
 rw [hk] at h3
 cases hc:t.c with
 | nil=>rfl
 | node n k c s=>rw [hc] at h3;simp [dA] at h3
theorem y9 {t:Tn} (h:wS z t):2 ^ t.k≤(eR t).length:=by
 have:=h.1.1
 show _≤(aO t.c).length + 1
 exact this
def Rs (l:List Tn):Prop:=l.Pairwise fun a b=>a.k < b.k
def Wk:List Tn→Prop
 | []=>True
 | t::l=>Rs l∧∀ x∈l,t.k≤x.k
theorem Rs.wk:∀ {l:List Tn},Rs l→Wk l
 | [],_=>trivial
 | t::l,h=>⟨(List.pairwise_cons.1 h).2,fun x hx=>Nat.le_of_lt ((List.pairwise_cons.1 h).1 x hx)⟩
theorem aCu:∀ {l:List Tn} {j:Nat},Rs l→(∀ t∈l,wS z t∧j≤t.k)→2 ^ (j + l.length)≤(aQ l).length + 2 ^ j
 | [],j,_,_=>by simp [aQ]
 | t::l,j,h,ho=>by
  obtain ⟨h1,h2⟩:=List.pairwise_cons.1 h
  obtain ⟨h3,h4⟩:=ho t List.mem_cons_self
  have h5:=aCu (j:=j + 1) h2 fun x hx=>⟨(ho x (List.mem_cons_of_mem _ hx)).1,by have:=h1 x hx;omega⟩
  have h6:2 ^ j≤2 ^ t.k:=Nat.pow_le_pow_right (by decide) h4
  have h7:=y9 h3
  rw [mR,List.length_cons,List.length_cons,List.length_append]
  rw [show j + (l.length + 1) = j + 1 + l.length from by omega]
  rw [Nat.pow_succ] at h5
  simp only [eR,List.length_cons] at h7
  omega
theorem aLh {l:List Tn} (h:Rs l) (ho:∀ t∈l,wS z t) {m:Nat} (hm:(aQ l).length≤m):l.length≤bl m:=by
 have h1:=aCu (j:=0) h fun t ht=>⟨ho t ht,Nat.zero_le _⟩
 rw [Nat.zero_add,Nat.pow_zero] at h1
 cases hr:l.length with
 | zero=>omega
 | succ r =>
  rw [hr,Nat.pow_succ] at h1
  have h2:1≤2 ^ r:=Nat.one_le_two_pow
  exact aCL (Nat.le_trans (by omega:2 ^ r≤(aQ l).length) hm)
theorem uZ {l:List Tn} (h:Wk l) (ho:∀ t∈l,wS z t) {m:Nat} (hm:(aQ l).length≤m):l.length≤bl m + 1:=by
 cases l with
 | nil=>simp
 | cons t l =>
  rw [mR,List.length_cons,List.length_append] at hm
  have:=aLh h.1 (fun x hx=>ho x (List.mem_cons_of_mem _ hx)) (m:=m) (by omega)
  rw [List.length_cons];omega
theorem y4 {t:Tn} (h:wS z t) {m:Nat} (hm:(eR t).length≤m):t.k + 1≤bl m:=aCL (Nat.le_trans (y9 h) hm)
end
theorem rZ {t:Tn} {l:List Tn} (h:t∈l):(eR t).length≤(aQ l).length:=by
 obtain ⟨a,b,rfl⟩:=List.append_of_mem h
 rw [lI,List.length_append,mR,List.length_cons,List.length_append]
 simp only [eR,List.length_cons];omega
def Od (f:Nat→cC):ST→Prop
 | nil=>True
 | node n _ c s=>(∀ x∈aO c,Bf (f n) (f x))∧Od f c∧Od f s
def y8 (f:Nat→cC) (t:Tn):Prop:=(∀ x∈aO t.c,Bf (f t.n) (f x))∧Od f t.c
theorem aHu {f:Nat→cC}:∀ {l:List Tn},Od f (fo l)↔∀ t∈l,y8 f t
 | []=>by simp [fo,Od]
 | t::l=>by
  simp only [fo,Od,aHu (l:=l),List.mem_cons,forall_eq_or_imp,y8]
  exact ⟨fun h=>⟨⟨h.1,h.2.1⟩,h.2.2⟩,fun h=>⟨h.1.1,h.1.2,h.2⟩⟩
theorem pJ {f:Nat→cC} {b:ST}:Od f b↔∀ t∈dA b,y8 f t:=by rw [←aHu,aBq]
theorem Od.congr {f g:Nat→cC}:∀ {b:ST},Od f b→(∀ n∈aO b,g n = f n)→Od g b
 | nil,_,_=>trivial
 | node n k c s,⟨h1,h2,h3⟩,hg=>by
  simp only [aO,List.mem_cons,List.mem_append] at hg
  refine ⟨fun x hx=>?_,h2.congr fun x hx=>hg x (.inr (.inl hx)),h3.congr fun x hx=>hg x (.inr (.inr hx))⟩
  rw [hg n (.inl rfl),hg x (.inr (.inl hx))];exact h1 x hx
theorem y8.congr {f g:Nat→cC} {t:Tn} (h:y8 f t) (hg:∀ n∈eR t,g n = f n):y8 g t:=by
 refine ⟨fun x hx=>?_,h.2.congr fun x hx=>hg x (List.mem_cons_of_mem _ hx)⟩
 rw [hg _ List.mem_cons_self,hg x (List.mem_cons_of_mem _ hx)];exact h.1 x hx
theorem y8.le {f:Nat→cC} {t:Tn} (h:y8 f t) {y:cC} (hy:Bf y (f t.n)):∀ x∈eR t,Bf y (f x):=fun x hx=>by
 rcases List.mem_cons.1 hx with rfl | hx
 ·exact hy
 ·exact hy.tr (h.1 x hx)
theorem aBh {f:Nat→cC} {m w:Tn} {k:Nat} (h1:y8 f m) (h2:y8 f w) (hb:Bf (f w.n) (f m.n)):y8 f ⟨w.n,k,node m.n m.k m.c w.c⟩:=by
 refine ⟨fun x hx=>?_,⟨h1.1,h1.2,h2.2⟩⟩
 have hx':x∈m.n::(aO m.c ++ aO w.c):=hx
 rcases List.mem_cons.1 hx' with rfl | hx'
 ·exact hb
 ·rcases List.mem_append.1 hx' with hx' | hx'
  ·exact hb.tr (h1.1 x hx')
  ·exact h2.1 x hx'
def m5:ST→Nat→List Nat
 | nil,_=>[]
 | node n _ c s,x=>if x = n then [] else if x∈aO c then m5 c x ++ [n] else m5 s x
theorem aEc (n k:Nat) (c s:ST) (x:Nat):m5 (node n k c s) x = if x = n then [] else if x∈aO c then m5 c x ++ [n] else m5 s x:=rfl
theorem aIA {n k:Nat} {c s:ST} {x:Nat} (h1:x≠n) (h2:x∈aO c):m5 (node n k c s) x = m5 c x ++ [n]:=by rw [aEc,if_neg h1,if_pos h2]
theorem aGU {n k:Nat} {c s:ST} {x:Nat} (h1:x≠n) (h2:x ∉ aO c):m5 (node n k c s) x = m5 s x:=by rw [aEc,if_neg h1,if_neg h2]
theorem aJY {n k:Nat} {c s:ST}:m5 (node n k c s) n = []:=by rw [aEc,if_pos rfl]
theorem oY:∀ {b:ST} {x y:Nat},y∈m5 b x→y∈aO b
 | nil,x,y,h=>by cases h
 | node n k c s,x,y,h=>by
  unfold m5 at h
  split at h
  ·cases h
  ·split at h
   ·rcases List.mem_append.1 h with h | h
    ·simp [aO,oY h]
    ·simp [aO,List.mem_singleton.1 h]
   ·simp [aO,oY h]
theorem aCG {α:AS}:∀ {b:ST} {up:Int} {x:Nat},St α up b→x∈aO b→(aO b).Nodup→α.get x 0 = match m5 b x with | []=>up | y::_=>(y:Int)
 | nil,_,_,_,h,_=>by cases h
 | node n k c s,up,x,⟨h1,h2,h3,h4,h5,h6⟩,hx,hn=>by
  simp only [aO,List.nodup_cons,List.mem_append,not_or] at hn
  obtain ⟨n1,n2,n3⟩:=List.nodup_append.1 hn.2
  by_cases e:x = n
  ·subst e
   rw [aJY];exact h1
  ·by_cases hc:x∈aO c
   ·rw [aIA e hc,aCG h5 hc n1]
    cases m5 c x <;> rfl
   ·have hs:x∈aO s:=by
     rcases List.mem_cons.1 hx with hx | hx
     ·exact absurd hx e
     ·rcases List.mem_append.1 hx with hx | hx
      ·exact absurd hx hc
      ·exact hx
    rw [aGU e hc]
    exact aCG h6 hs n2
theorem aAx:∀ {b:ST} {x:Nat},x∈aO b→(aO b).Nodup→m5 b x = []→∃ t∈dA b,t.n = x
 | nil,_,h,_,_=>by cases h
 | node n k c s,x,hx,hn,ha=>by
  simp only [aO,List.nodup_cons,List.mem_append,not_or] at hn
  obtain ⟨n1,n2,n3⟩:=List.nodup_append.1 hn.2
  unfold m5 at ha
  split at ha
  ·rename_i e;exact ⟨_,List.mem_cons_self,e.symm⟩
  ·rename_i e
   split at ha
   ·simp at ha
   ·rename_i hc
    have hs:x∈aO s:=by
     rcases List.mem_cons.1 hx with hx | hx
     ·exact absurd hx e
     ·rcases List.mem_append.1 hx with hx | hx
      ·exact absurd hx hc
      ·exact hx
    obtain ⟨t,ht,e⟩:=aAx hs n2 ha
    exact ⟨t,List.mem_cons_of_mem _ ht,e⟩
theorem wE {z:Nat}:∀ {b:ST} {x:Nat},Ok z b→x∈aO b→∃ t∈dA b,(m5 b x).length≤t.k
 | nil,_,_,h=>by cases h
 | node n k c s,x,⟨h1,h2,h3⟩,hx=>by
  unfold m5
  split
  ·exact ⟨⟨n,k,c⟩,List.mem_cons_self,Nat.zero_le _⟩
  ·rename_i e
   split
   ·rename_i hc
    obtain ⟨t,ht,hl⟩:=wE h2 hc
    refine ⟨⟨n,k,c⟩,List.mem_cons_self,?_⟩
    have:=h1.2.1 t ht
    rw [List.length_append,List.length_singleton]
    show _≤k
    omega
   ·rename_i hc
    have hs:x∈aO s:=by
     rcases List.mem_cons.1 hx with hx | hx
     ·exact absurd hx e
     ·rcases List.mem_append.1 hx with hx | hx
      ·exact absurd hx hc
      ·exact hx
    obtain ⟨t,ht,hl⟩:=wE h3 hs
    exact ⟨t,List.mem_cons_of_mem _ ht,hl⟩
theorem tB:∀ {b:ST} {x y:Nat},(aO b).Nodup→y∈m5 b x→∃ p,m5 b x = p ++ y::m5 b y
 | nil,_,_,_,h=>by cases h
 | node n k c s,x,y,hn,hy=>by
  have hn0:=hn
  simp only [aO,List.nodup_cons,List.mem_append,not_or] at hn
  obtain ⟨n1,n2,n3⟩:=List.nodup_append.1 hn.2
  unfold m5 at hy ⊢
  split
  ·rename_i e;rw [if_pos e] at hy;cases hy
  ·rename_i e
   rw [if_neg e] at hy
   split
   ·rename_i hc
    rw [if_pos hc] at hy
    rcases List.mem_append.1 hy with hy | hy
    ·have hyc:=oY hy
     have hyn:y≠n:=fun e=>hn.1.1 (e▸hyc)
     obtain ⟨p,hp⟩:=tB n1 hy
     rw [if_neg hyn,if_pos hyc]
     exact ⟨p,by rw [hp];simp⟩
    ·have:=List.mem_singleton.1 hy
     subst this
     rw [if_pos rfl]
     exact ⟨m5 c x,rfl⟩
   ·rename_i hc
    rw [if_neg hc] at hy
    have hys:=oY hy
    have hyn:y≠n:=fun e=>hn.1.2 (e▸hys)
    have hyc:y ∉ aO c:=fun h=>n3 y h y hys rfl
    obtain ⟨p,hp⟩:=tB n2 hy
    rw [if_neg hyn,if_neg hyc]
    exact ⟨p,hp⟩
theorem oP {b:ST} {x:Nat} (hn:(aO b).Nodup):x ∉ m5 b x:=fun h=>by
 obtain ⟨p,hp⟩:=tB hn h
 have:=congrArg List.length hp
 rw [List.length_append,List.length_cons] at this
 omega
theorem aK1 {b:ST} {x y z:Nat} (hn:(aO b).Nodup) (h1:y∈m5 b x) (h2:z∈m5 b y):z∈m5 b x:=by
 obtain ⟨p,hp⟩:=tB hn h1
 rw [hp];simp [h2]
theorem aAN {b:ST} {x y:Nat} {l:List Nat} (hn:(aO b).Nodup) (h:m5 b x = y::l):m5 b y = l:=by
 obtain ⟨p,hp⟩:=tB hn (x:=x) (y:=y) (by rw [h];simp)
 rw [h] at hp
 cases p with
 | nil=>simpa using hp.symm
 | cons z p =>
  simp only [List.cons_append,List.cons.injEq] at hp
  obtain ⟨rfl,hp⟩:=hp
  have h1:=oP hn (x:=x)
  have h2:y∈m5 b y→False:=fun h=>oP hn h
  have h3:m5 b x = (y::p) ++ y::m5 b y:=by rw [h,hp];rfl
  have h4:=congrArg List.length h3
  exfalso
  have key:∀ (q:List Nat),m5 b x = q ++ y::m5 b y→∀ (q' l':List Nat),m5 b x = q' ++ y::l'→q' = q:=by
   have fS:(m5 b x).Nodup:=aGG hn
   intro q hq q' l' hq'
   rw [hq] at hq' fS
   have a1:=List.nodup_append.1 fS
   rw [List.append_eq_append_iff] at hq'
   rcases hq' with ⟨r,e1,e2⟩ | ⟨r,e1,e2⟩
   ·cases r with
    | nil=>simpa using e1
    | cons u r =>
     simp only [List.cons_append,List.cons.injEq] at e2
     obtain ⟨rfl,e2⟩:=e2
     have:=(List.nodup_cons.1 a1.2.1).1
     rw [e2] at this
     exact absurd (by simp) this
   ·cases r with
    | nil=>simpa using e1.symm
    | cons u r =>
     simp only [List.cons_append,List.cons.injEq] at e2
     obtain ⟨rfl,e2⟩:=e2
     exact absurd rfl (a1.2.2 y (by rw [e1];simp) y (by simp))
  have:=key (y::p) h3 [] l h
  cases this
where
 aGG {b:ST} {x:Nat} (hn:(aO b).Nodup):(m5 b x).Nodup:=by
  induction b with
  | nil=>exact List.nodup_nil
  | node n k c s ihc ihs =>
   simp only [aO,List.nodup_cons,List.mem_append,not_or] at hn
   obtain ⟨n1,n2,n3⟩:=List.nodup_append.1 hn.2
   unfold m5
   split
   ·exact List.nodup_nil
   ·split
    ·rw [List.nodup_append]
     refine ⟨ihc n1,by simp,fun a ha b hb e=>?_⟩
     rw [List.mem_singleton.1 hb] at e
     exact hn.1.1 (e▸oY ha)
    ·exact ihs n2
def OdA (f:Nat→cC) (b:ST):Prop:=∀ x∈aO b,∀ y∈m5 b x,Bf (f y) (f x)
theorem rA {f:Nat→cC}:∀ {b:ST},(aO b).Nodup→(Od f b↔OdA f b)
 | nil,_=>⟨fun _ x hx=>(by cases hx),fun _=>trivial⟩
 | node n k c s,hn=>by
  simp only [aO,List.nodup_cons,List.mem_append,not_or] at hn
  obtain ⟨n1,n2,n3⟩:=List.nodup_append.1 hn.2
  have hac:∀ x∈aO c,m5 (node n k c s) x = m5 c x ++ [n]:=fun x hx=>aIA (fun e=>hn.1.1 (e▸hx)) hx
  have has:∀ x∈aO s,m5 (node n k c s) x = m5 s x:=fun x hx=>aGU (fun e=>hn.1.2 (e▸hx)) (fun h=>n3 x h x hx rfl)
  have an:m5 (node n k c s) n = []:=aJY
  simp only [Od,rA n1,rA n2]
  constructor
  ·rintro ⟨h1,h2,h3⟩ x hx y hy
   rcases List.mem_cons.1 hx with rfl | hx
   ·rw [an] at hy;cases hy
   ·rcases List.mem_append.1 hx with hx | hx
    ·rw [hac x hx] at hy
     rcases List.mem_append.1 hy with hy | hy
     ·exact h2 x hx y hy
     ·rw [List.mem_singleton.1 hy];exact h1 x hx
    ·rw [has x hx] at hy
     exact h3 x hx y hy
  ·intro h
   refine ⟨fun x hx=>h x (by simp [aO,hx]) n (by rw [hac x hx];simp),fun x hx y hy=>h x (by simp [aO,hx]) y (by rw [hac x hx];simp [hy]),fun x hx y hy=>h x (by simp [aO,hx]) y (by rw [has x hx];exact hy)⟩
def sw (f:Nat→cC) (n m:Nat):Nat→cC:=fun x=>if x = n then f m else if x = m then f n else f x
def Hol (f:Nat→cC) (b:ST) (h:Nat):Prop:=∀ x∈aO b,∀ y∈m5 b x,x≠h→y≠h→Bf (f y) (f x)
def aDd (f:Nat→cC) (b:ST) (h:Nat):Prop:=∀ x∈aO b,h∈m5 b x→Bf (f h) (f x)
theorem Hol.step {f:Nat→cC} {b:ST} {h p:Nat} {l:List Nat} (hn:(aO b).Nodup) (hh:h∈aO b) (H:Hol f b h) (ha:m5 b h = p::l):Hol (sw f h p) b p:=by
 have hp:m5 b p = l:=aAN hn ha
 have hpn:p∈aO b:=oY (x:=h) (by rw [ha];simp)
 have hhp:p≠h:=fun e=>oP hn (x:=h) (by rw [ha,e];simp)
 intro x hx y hy hxp hyp
 unfold sw
 by_cases exh:x = h
 ·subst exh
  rw [if_pos rfl]
  rw [ha] at hy
  have hyl:y∈l:=(List.mem_cons.1 hy).resolve_left hyp
  have hyx:y≠x:=fun e=>oP hn (x:=x) (by rw [ha,←e];simp [hyl])
  rw [if_neg hyx,if_neg hyp]
  exact H p hpn y (by rw [hp];exact hyl) hhp hyx
 ·rw [if_neg exh,if_neg hxp]
  by_cases eyh:y = h
  ·subst eyh
   rw [if_pos rfl]
   exact H x hx p (aK1 hn hy (by rw [ha];simp)) exh hhp
  ·rw [if_neg eyh,if_neg hyp]
   exact H x hx y hy exh eyh
theorem aDd.step {f:Nat→cC} {b:ST} {h p:Nat} {l:List Nat} (hn:(aO b).Nodup) (hh:h∈aO b) (H:Hol f b h) (ha:m5 b h = p::l) (hb:Bf (f h) (f p)):aDd (sw f h p) b p:=by
 have hhp:p≠h:=fun e=>oP hn (x:=h) (by rw [ha,e];simp)
 intro x hx hpx
 have hxp:x≠p:=fun e=>by rw [e] at hpx;exact oP hn hpx
 unfold sw
 rw [if_neg hhp,if_pos rfl]
 by_cases exh:x = h
 ·subst exh
  rw [if_pos rfl];exact hb
 ·rw [if_neg exh,if_neg hxp]
  exact hb.tr (H x hx p hpx exh hhp)
theorem Hol.done {f:Nat→cC} {b:ST} {h:Nat} (hn:(aO b).Nodup) (H:Hol f b h) (D:aDd f b h) (hb:∀ p l,m5 b h = p::l→Bf (f p) (f h)):OdA f b:=by
 intro x hx y hy
 by_cases exh:x = h
 ·subst exh
  cases ha:m5 b x with
  | nil=>rw [ha] at hy;cases hy
  | cons p l =>
   have h1:=hb p l ha
   rw [ha] at hy
   rcases List.mem_cons.1 hy with rfl | hy
   ·exact h1
   ·have hpn:p∈aO b:=oY (x:=x) (by rw [ha];simp)
    have hp:m5 b p = l:=aAN hn ha
    have hpx:p≠x:=fun e=>oP hn (x:=x) (by rw [ha,e];simp)
    have hyx:y≠x:=fun e=>oP hn (x:=x) (by rw [ha,←e];simp [hy])
    exact (H p hpn y (by rw [hp];exact hy) hpx hyx).tr h1
 ·by_cases eyh:y = h
  ·subst eyh;exact D x hx hy
  ·exact H x hx y hy exh eyh
theorem Hol.kids {f:Nat→cC} {b:ST} {t:Tn} (hn:(aO b).Nodup) (ht:t∈dA b) (H:Hol f b t.n):Od f t.c∧∀ u∈dA b,u.n≠t.n→y8 f u:=by
 induction b with
 | nil=>cases ht
 | node n k c s ihc ihs =>
  have hn0:=hn
  simp only [aO,List.nodup_cons,List.mem_append,not_or] at hn
  obtain ⟨n1,n2,n3⟩:=List.nodup_append.1 hn.2
  have hac:∀ x∈aO c,m5 (node n k c s) x = m5 c x ++ [n]:=fun x hx=>aIA (fun e=>hn.1.1 (e▸hx)) hx
  have has:∀ x∈aO s,m5 (node n k c s) x = m5 s x:=fun x hx=>aGU (fun e=>hn.1.2 (e▸hx)) (fun h=>n3 x h x hx rfl)
  have troot:∀ {s:ST} {u:Tn},u∈dA s→u.n∈aO s:=by
   intro s u hu
   rw [←bP]
   exact eJ.2 ⟨u,hu,List.mem_cons_self⟩
  rcases List.mem_cons.1 ht with rfl | ht
  ·refine ⟨(rA n1).2 fun x hx y hy=>?_,fun u hu eQ=>?_⟩
   ·exact H x (by simp [aO,hx]) y (by rw [hac x hx];simp [hy]) (fun e=>hn.1.1 ((show x = n from e)▸hx)) (fun e=>hn.1.1 ((show y = n from e)▸oY hy))
   ·rcases List.mem_cons.1 hu with rfl | hu
    ·exact absurd rfl eQ
    ·have:Od f s:=(rA n2).2 fun x hx y hy=>H x (by simp [aO,hx]) y (by rw [has x hx];exact hy) (fun e=>hn.1.2 ((show x = n from e)▸hx)) (fun e=>hn.1.2 ((show y = n from e)▸oY hy))
     exact pJ.1 this u hu
  ·have htn:=troot ht
   have htc:t.n ∉ aO c:=fun h=>n3 _ h _ htn rfl
   have hnt:n≠t.n:=fun e=>hn.1.2 (e▸htn)
   obtain ⟨g1,g2⟩:=ihs n2 ht fun x hx y hy hxt hyt=>H x (by simp [aO,hx]) y (by rw [has x hx];exact hy) hxt hyt
   refine ⟨g1,fun u hu eQ=>?_⟩
   rcases List.mem_cons.1 hu with rfl | hu
   ·refine ⟨fun x hx=>H x (by simp [aO,hx]) n (by rw [hac x hx];simp) (fun e=>htc (e▸hx)) hnt,(rA n1).2 fun x hx y hy=>?_⟩
    exact H x (by simp [aO,hx]) y (by rw [hac x hx];simp [hy]) (fun e=>htc (e▸hx)) (fun e=>htc (e▸oY hy))
   ·exact g2 u hu eQ
theorem aER {f:Nat→cC} {n m:Nat} {N:List Nat} (hn:N.Nodup) (h1:n∈N) (h2:m∈N):(N.map (sw f n m)).Perm (N.map f):=by
 by_cases e:n = m
 ·subst e
  rw [List.map_congr_left fun x _=>show sw f n n x = f x from by unfold sw;split <;> simp_all]
 ·obtain ⟨p,hp⟩:∃ p,N.Perm (n::m::p):=by
   have e1:=(List.perm_cons_erase h1)
   have h3:m∈N.erase n:=(List.mem_erase_of_ne (fun e'=>e e'.symm)).2 h2
   exact ⟨_,e1.trans ((List.perm_cons_erase h3).cons n)⟩
  have fS:=hp.nodup_iff.1 hn
  simp only [List.nodup_cons,List.mem_cons,not_or] at fS
  refine (hp.map _).trans (List.Perm.trans ?_ (hp.map f).symm)
  simp only [List.map_cons]
  rw [show sw f n m n = f m from by unfold sw;simp,show sw f n m m = f n from by unfold sw;rw [if_neg (fun e'=>e e'.symm),if_pos rfl]]
  rw [List.map_congr_left fun x hx=>show sw f n m x = f x from by
   unfold sw
   rw [if_neg (show x≠n from fun e'=>fS.1.2 (e'▸hx)),if_neg (show x≠m from fun e'=>fS.2.1 (e'▸hx))]]
  exact List.Perm.swap _ _ _
theorem aK3 {f:Nat→cC} {n m:Nat} {N:List Nat} (hn:N.Nodup) (h1:n∈N) (h2:m∈N):(bE (sw f n m) N).Perm (bE f N):=by
 unfold bE
 refine List.Perm.append_left N ?_
 have:=(aER (f:=f) hn h1 h2).map (·.1)
 rw [List.map_map,List.map_map] at this
 exact this
end ST
end HL
namespace HL
structure xU (z:Nat) (α:AS) (r:Int) (f:Nat→cC) (b:ST):Prop where
 r:r = b.root
 st:ST.St α (-1) b
 lb:ST.Lb α f (ST.aO b)
 nd:(ST.bE f (ST.aO b)).Nodup
 ok:ST.Ok z b
 wk:ST.Wk (ST.dA b)
 od:ST.Od f b
theorem xU.nil {z:Nat} {α:AS} {f:Nat→cC}:xU z α (-1) f .nil:=⟨rfl,trivial,fun n hn=>(by cases hn),List.nodup_nil,trivial,trivial,trivial⟩
theorem xU.live {z:Nat} {α:AS} {r:Int} {f:Nat→cC} {b:ST} (h:xU z α r f b):∀ c∈ST.bE f (ST.aO b),α.live c = true:=fun c hc=>by
 rcases List.mem_append.1 hc with hc | hc
 ·exact (h.lb c hc).ln
 ·obtain ⟨n,hn,rfl⟩:=List.mem_map.1 hc
  exact (h.lb n hn).li
theorem xU.congr {z:Nat} {α β:AS} {r:Int} {f:Nat→cC} {b:ST} (h:xU z α r f b) (hg:∀ c∈ST.bE f (ST.aO b),∀ g,β.get c g = α.get c g) (hl:∀ c∈ST.bE f (ST.aO b),β.live c = α.live c):xU z β r f b :=
 ⟨h.r,h.st.congr fun n hn g _=>hg n (List.mem_append_left _ hn) g,h.lb.congr (fun c hc g _=>hg c hc g) hl,h.nd,h.ok,h.wk,h.od⟩
theorem LT.xL:∀ (t:LT),(LT.cells t).Perm (LT.aO t ++ (LT.bW t).map (·.1))
 | .nil=>List.Perm.refl _
 | .node n i e l r=>by
  simp only [LT.cells,LT.aO,LT.bW,List.map_cons,List.map_append,List.cons_append]
  refine List.Perm.cons _ (List.Perm.trans ?_ List.perm_middle.symm)
  refine List.Perm.cons _ (((LT.xL l).append (LT.xL r)).trans ?_)
  rw [List.append_assoc,List.append_assoc]
  exact (List.perm_append_comm_assoc _ _ _).append_left _
def KH (k:Int) (α:AS) (r:Int) (L:List cC) (N:List Nat):Prop :=
 (k = 1∧∃ t:LT,Hp α r t∧(LT.bW t).Perm L∧(LT.aO t).Perm N) ∨
 ((k = 2∨k = 3)∧∃ f b,xU (if k = 2 then 1 else 2) α r f b∧(ST.gS f (ST.aO b)).Perm L∧(ST.aO b).Perm N)
def fG (L:List cC) (N:List Nat):List Nat:=N ++ L.map (·.1)
section
variable {k:Int} {α β:AS} {r:Int} {L L':List cC} {N N':List Nat}
theorem KH.perm (h:KH k α r L N) (h1:L.Perm L') (h2:N.Perm N'):KH k α r L' N':=by
 rcases h with ⟨hk,t,g1,g2,g3⟩ | ⟨hk,f,b,g1,g2,g3⟩
 ·exact .inl ⟨hk,t,g1,g2.trans h1,g3.trans h2⟩
 ·exact .inr ⟨hk,f,b,g1,g2.trans h1,g3.trans h2⟩
theorem jQ (h1:L.Perm L') (h2:N.Perm N'):(fG L N).Perm (fG L' N'):=h2.append (h1.map _)
theorem lR {t:LT} (g2:(LT.bW t).Perm L) (g3:(LT.aO t).Perm N):(LT.cells t).Perm (fG L N):=(LT.xL t).trans (jQ g2 g3)
theorem pY {f:Nat→cC} {b:ST} (g2:(ST.gS f (ST.aO b)).Perm L) (g3:(ST.aO b).Perm N):(ST.bE f (ST.aO b)).Perm (fG L N):=by
 have:ST.bE f (ST.aO b) = fG (ST.gS f (ST.aO b)) (ST.aO b):=by
  unfold ST.bE fG ST.gS
  rw [List.map_map];rfl
 rw [this]
 exact jQ g2 g3
theorem KH.nd (h:KH k α r L N):(fG L N).Nodup:=by
 rcases h with ⟨hk,t,g1,g2,g3⟩ | ⟨hk,f,b,g1,g2,g3⟩
 ·exact (lR g2 g3).nodup_iff.1 g1.nd
 ·exact (pY g2 g3).nodup_iff.1 g1.nd
theorem KH.live (h:KH k α r L N):∀ c∈fG L N,α.live c = true:=fun c hc=>by
 rcases h with ⟨hk,t,g1,g2,g3⟩ | ⟨hk,f,b,g1,g2,g3⟩
 ·exact g1.live c ((lR g2 g3).mem_iff.2 hc)
 ·exact g1.live c ((pY g2 g3).mem_iff.2 hc)
theorem KH.congr (h:KH k α r L N) (hg:∀ c∈fG L N,∀ f,β.get c f = α.get c f) (hl:∀ c∈fG L N,β.live c = α.live c):KH k β r L N:=by
 rcases h with ⟨hk,t,g1,g2,g3⟩ | ⟨hk,f,b,g1,g2,g3⟩
 ·have hp:=lR g2 g3
  exact .inl ⟨hk,t,g1.congr (fun c hc=>hg c (hp.mem_iff.1 hc)) (fun c hc=>hl c (hp.mem_iff.1 hc)),g2,g3⟩
 ·have hp:=pY g2 g3
  exact .inr ⟨hk,f,b,g1.congr (fun c hc=>hg c (hp.mem_iff.1 hc)) (fun c hc=>hl c (hp.mem_iff.1 hc)),g2,g3⟩
theorem KH.pL {S Lv:Nat→Prop} {d j:Int} (h:KH k α r L N) (he:AS.lJ S Lv d j α β) (hS:∀ c∈fG L N,¬ S c) (hL:∀ c∈fG L N,¬ Lv c):KH k β r L N :=
 h.congr (fun c hc f=>he.get c (hS c hc) f) (fun c hc=>he.live c (hL c hc))
theorem KH.sm {j:Int} (h:KH k α r L N) (he:AS.Sm j α β):KH k β r L N:=h.congr (fun c _ f=>by rw [he.get]) (fun c _=>by rw [he.live])
theorem vR {α:AS}:∀ {t:LT} {up:Int} {i:Nat} {e:cY},LT.fA α up t→(i,e)∈LT.bW t→∃ n,α.Nd n i e
 | .nil,_,_,_,_,h=>by cases h
 | .node n j g l s,up,i,e,⟨h1,_,_,_,_,_,h7,h8⟩,h=>by
  simp only [LT.bW,List.mem_cons,List.mem_append] at h
  rcases h with h | h | h
  ·cases h;exact ⟨n,h1⟩
  ·exact vR h7 h
  ·exact vR h8 h
theorem KH.item (h:KH k α r L N) {i:Nat} {e:cY} (hm:(i,e)∈L):α.live i = true∧α.get i 7 = e.1∧α.get i 8 = e.2:=by
 rcases h with ⟨hk,t,g1,g2,g3⟩ | ⟨hk,f,b,g1,g2,g3⟩
 ·obtain ⟨n,hn⟩:=vR g1.rep (g2.mem_iff.2 hm)
  exact ⟨hn.li,hn.k,hn.s⟩
 ·obtain ⟨n,hn,e1⟩:=List.mem_map.1 (g2.mem_iff.2 hm)
  have:=g1.lb n hn
  rw [e1] at this
  exact ⟨this.li,this.k,this.s⟩
theorem KH.nil (h1:1≤k) (h2:k≤3):KH k α (-1) [] []:=by
 by_cases hk:k = 1
 ·subst hk;exact .inl ⟨rfl,.nil,Hp.nil,List.Perm.refl _,List.Perm.refl _⟩
 ·exact .inr ⟨by omega,fun _=>(0,(0,0)),.nil,xU.nil,List.Perm.refl _,List.Perm.refl _⟩
end
end HL
end Go.Proofs.YtodobkbnmjgkdaaGreat
