import Derived.Test.YtodobkbnmjgkdaaGreatPe15
namespace Go.Proofs.YtodobkbnmjgkdaaGreat
open Go.RowKit (Below)
set_option linter.unusedVariables false
set_option linter.unusedSimpArgs false
set_option maxRecDepth 100000
namespace HL
namespace AS
theorem Sm.lI {k:Int} {α β:AS} (h:Sm k α β) (c:Nat):Sm k (α.lI c) (β.lI c) :=
 ⟨h.n,h.get,by show (fun c'=>if c' = c then false else β.live c') = _;rw [h.live];rfl,h.never,by show β.free ++ [c] = α.free ++ [c];rw [h.free],h.steps⟩
theorem Sm.nd {k:Int} {α β:AS} (h:Sm k α β) {n i:Nat} {e:bR} (hn:α.Nd n i e):β.Nd n i e :=
 hn.congr (fun f=>by rw [h.get]) (fun f=>by rw [h.get]) (by rw [h.live]) (by rw [h.live])
end AS
section
variable {w0:World} {M F:Mem} {R:VP} {a:Nat} {α:AS}
theorem aA.aKN {A B D E:cI} (h:aA w0 F M (star A (star B (star D E)))):∃ F',aA w0 F' M E∧Mem.le F F'∧∀ M' E',aA w0 F' M' E'→aA w0 F M' (star A (star B (star D E'))):=by
 obtain ⟨F',h1,h2,h3⟩:=h.aKQ
 obtain ⟨F'',h4,h5,h6⟩:=h1.last
 exact ⟨F'',h4,Mem.le_trans h2 h5,fun M' E' h'=>h3 M' _ (h6 M' _ h')⟩
theorem aKv {Q:cI} {s x:SV} {l m:List Int} (h:aA w0 F M (star (pS s (l.map (Value.int .i64))) Q)) (hx:qO w0 M .i64 x m) (hb:l.length + m.length≤137438953472) {K:VP}
  (hK:∀ M' s',aA w0 F M' (star (pS s' ((l ++ m).map (Value.int .i64))) Q)→K s'.v M'):(aJ PP w0).app #[53,53] 53 [SV.v s,SV.v x] K M:=by
 obtain ⟨F',h1,h2,h3⟩:=h.sl
 exact aLC Tryz.underlying53 W.e3 h2 h1 hx (Mem.le_refl _) hb fun M' s' l1 l2=>hK M' s' (h3 M' s' _ l2 l1)
theorem aA.cells {Q:cI} {s:SV} {l:List Value} (h:aA w0 F M (star (pS s l) Q)):gW w0 M s.a l∧s.n = l.length:=by
 obtain ⟨F',h1,h2,h3⟩:=h.sl
 exact ⟨h1.cells,h1.len⟩
theorem aA.aJX {Q:cI} {s:SV} {l:List Nat} (h:aA w0 F M (star (pS s ((aY l).map (Value.int .i64))) Q)) (hl:∀ x∈l,x < 1000000) (hm:l.length≤1000000):qO w0 M .i64 s (aY l):=by
 refine h.rdI (fun n hn=>?_) (by simpa [aY] using hm)
 obtain ⟨x,hx,rfl⟩:=List.mem_map.1 hn
 exact aHT (by have:=hl x hx;unfold gC;omega)
theorem rK (hA:aA w0 F M (aF a α)) {n m i j:Nat} {e g:bR} (h1:α.Nd n i e) (h2:α.Nd m j g) (h:∀ M' β,aA w0 F M' (aF a β)→AS.Sm 6 α β→R (.bool (decide (Bf (i,e) (j,g)))) M'):C PP w0 Id.iE #[.pointer (some ⟨a,0,none⟩),.int .i64 (n:Int),.int .i64 (m:Int)] R M:=by
 apply iE.go
 unfold iE.T aH
 refine eZ hA fun M1 hA1=>?_
 rw [show α.fR (n:Int) 6 = (i:Int) from AS.dI (f:=6) h1.ln (by omega) h1.it (AS.cJ hA.inv h1.li)]
 simp only [go_sem]
 refine eZ hA1 fun M2 hA2=>?_
 rw [show α.tick.fR (m:Int) 6 = (j:Int) from AS.dI (α:=α.tick) (f:=6) h2.ln (by omega) h2.it (AS.cJ hA.inv h2.li)]
 simp only [go_sem]
 refine aGB hA2 fun M3 hA3=>?_
 rw [show α.tick.tick.zC (i:Int) (j:Int) = decide (Bf (i,e) (j,g)) from AS.aGn (α:=α.tick.tick) h1.li h2.li h1.k h1.s h2.k h2.s]
 simp only [go_sem]
 exact h M3 _ hA3 ((((((AS.aO.trans AS.aO).trans AS.aO).trans AS.aO).trans AS.aO).trans AS.aO).mono (by omega))
theorem aA1 (hA:aA w0 F M (aF a α)) {i:Nat} (hi:α.live i = true) (h0:α.next = none→∀ M' β,aA w0 F M' (aF a β)→AS.Sm 1 α β→R (.tuple #[.int .i64 (-1),.bool false]) M')
  (h1:∀ n,α.next = some n→∀ M' β,aA w0 F M' (aF a β)→AS.Sm 3 ((α.take.put n 6 i).put i 9 n) β→R (.tuple #[.int .i64 (n:Int),.bool true]) M'):C PP w0 Id.mL #[.pointer (some ⟨a,0,none⟩),.int .i64 (i:Int)] R M:=by
 apply mL.go
 unfold mL.T aH
 refine aFO hA fun M1 hA1=>?_
 cases hnx:α.next with
 | none =>
  rw [show α.wC = -1 from by unfold AS.wC;rw [hnx]]
  rw [(AS.xN hnx).1] at hA1
  simp only [go_sem,Option.isSome_none,mE]
  exact h0 hnx M1 _ hA1 AS.aO
 | some n =>
  obtain ⟨hcn,hcl,hct⟩:=AS.kL hA.inv hnx
  rw [show α.wC = (n:Int) from by unfold AS.wC;rw [hnx]]
  simp only [go_sem,Option.isSome_some,dZ]
  have hlv:∀ x,α.take.live x = if x = n then true else α.live x:=by
   intro x;rw [hct];rfl
  refine aA6 hA1 (by show α.take.live n = true;rw [hlv,if_pos rfl]) (by show α.take.live i = true;rw [hlv];split;rfl;exact hi) fun M2 β hA2 hs=>?_
  exact h1 n hnx M2 β hA2 (((((AS.aO (α:=α.take)).put n 6 (i:Int)).put i 9 (n:Int)).trans hs).mono (by omega))
theorem aFh (hA:aA w0 F M (aF a α)) {n i:Nat} {e:bR} (h1:α.Nd n i e) (h:∀ M' β,aA w0 F M' (aF a β)→AS.Sm 3 ((α.put i 9 (-1)).lI n) β→R (.int .i64 (i:Int)) M'):C PP w0 Id.lP #[.pointer (some ⟨a,0,none⟩),.int .i64 (n:Int)] R M:=by
 apply lP.go
 unfold lP.T aH
 refine eZ hA fun M1 hA1=>?_
 rw [show α.fR (n:Int) 6 = (i:Int) from AS.dI (f:=6) h1.ln (by omega) h1.it (AS.cJ hA.inv h1.li)]
 simp only [go_sem]
 refine iA hA1 fun M2 hA2=>?_
 simp only [go_sem]
 rw [show α.tick.mC (i:Int) 9 (-1) = α.tick.put i 9 (-1) from AS.cU (α:=α.tick) (f:=9) h1.li (by omega) _] at hA2
 refine aFY hA2 fun M3 hA3=>?_
 rw [show (α.tick.put i 9 (-1)).tick.xA (n:Int) = (α.tick.put i 9 (-1)).tick.lI n from AS.vW h1.ln] at hA3
 simp only [go_sem]
 exact h M3 _ hA3 ((((((AS.aO (α:=α)).put i 9 (-1)).trans AS.aO).lI n).trans AS.aO).mono (by omega))
inductive Tr (K:Nat→List Int→Prop):List Int→List Nat→Prop
 | nil:Tr K [] []
 | skip {w:List Int} {N:List Nat} (h:Tr K w N):Tr K (w ++ [-1]) N
 | node {w ks:List Int} {n:Nat} {N:List Nat} (hk:K n ks) (h:Tr K (w ++ ks) N):Tr K (w ++ [(n:Int)]) (n::N)
end
end HL
namespace HL
inductive LT where
 | nil
 | node (n i:Nat) (e:bR) (l r:LT)
namespace LT
def root:LT→Int
 | nil => -1
 | node n _ _ _ _=>(n:Int)
def rk:LT→Nat
 | nil=>0
 | node _ _ _ _ r=>rk r + 1
def bY:LT→List cH
 | nil=>[]
 | node _ i e l r=>(i,e)::(bY l ++ bY r)
def aP:LT→List Nat
 | nil=>[]
 | node n _ _ l r=>n::(aP l ++ aP r)
def cells:LT→List Nat
 | nil=>[]
 | node n i _ l r=>n::i::(cells l ++ cells r)
def Ln:LT→Prop
 | nil=>True
 | node _ _ _ l r=>rk r≤rk l∧Ln l∧Ln r
def Od:LT→Prop
 | nil=>True
 | node _ i e l r=>(∀ x∈bY l,Bf (i,e) x)∧(∀ x∈bY r,Bf (i,e) x)∧Od l∧Od r
theorem aC5:∀ {t:LT},Ln t→2 ^ rk t≤(bY t).length + 1
 | nil,_=>by simp [rk,bY]
 | node n i e l r,h=>by
  have h1:=aC5 h.2.1
  have h2:=aC5 h.2.2
  have h3:2 ^ rk r≤2 ^ rk l:=Nat.pow_le_pow_right (by decide) h.1
  simp only [rk,bY,List.length_cons,List.length_append,Nat.pow_succ]
  omega
theorem kJ:∀ (t:LT),(cells t).length = 2 * (bY t).length
 | nil=>rfl
 | node n i e l r=>by simp only [cells,bY,List.length_cons,List.length_append,kJ l,kJ r];omega
theorem m7:∀ {t:LT} {x:Nat},x∈aP t→x∈cells t
 | nil,x,h=>by cases h
 | node n i e l r,x,h=>by
  simp only [aP,cells,List.mem_cons,List.mem_append] at h ⊢
  rcases h with h | h | h
  ·exact .inl h
  ·exact .inr (.inr (.inl (m7 h)))
  ·exact .inr (.inr (.inr (m7 h)))
theorem oR:∀ {t:LT} {x:cH},x∈bY t→x.1∈cells t
 | nil,x,h=>by cases h
 | node n i e l r,x,h=>by
  simp only [bY,cells,List.mem_cons,List.mem_append] at h ⊢
  rcases h with h | h | h
  ·exact .inr (.inl (by rw [h]))
  ·exact .inr (.inr (.inl (oR h)))
  ·exact .inr (.inr (.inr (oR h)))
def fG (α:AS):Int→LT→Prop
 | _,nil=>True
 | up,node n i e l r=>α.Nd n i e∧α.get n 0 = up∧α.get n 1 = -1∧α.get n 2 = l.root∧α.get n 3 = r.root∧α.get n 4 = (rk r:Int) + 1∧fG α n l∧fG α n r
theorem fG.congr {α β:AS}:∀ {t:LT} {up:Int},fG α up t→(∀ c∈cells t,∀ f,β.get c f = α.get c f)→(∀ c∈cells t,β.live c = α.live c)→fG β up t
 | nil,_,_,_,_=>trivial
 | node n i e l r,up,h,hg,hl=>by
  obtain ⟨h1,h2,h3,h4,h5,h6,h7,h8⟩:=h
  simp only [cells,List.mem_cons,List.mem_append] at hg hl
  refine ⟨h1.congr (hg n (.inl rfl)) (hg i (.inr (.inl rfl))) (hl n (.inl rfl)) (hl i (.inr (.inl rfl))),?_,?_,?_,?_,?_,?_,?_⟩
  ·rw [hg n (.inl rfl)];exact h2
  ·rw [hg n (.inl rfl)];exact h3
  ·rw [hg n (.inl rfl)];exact h4
  ·rw [hg n (.inl rfl)];exact h5
  ·rw [hg n (.inl rfl)];exact h6
  ·exact h7.congr (fun c hc=>hg c (.inr (.inr (.inl hc)))) (fun c hc=>hl c (.inr (.inr (.inl hc))))
  ·exact h8.congr (fun c hc=>hg c (.inr (.inr (.inr hc)))) (fun c hc=>hl c (.inr (.inr (.inr hc))))
theorem fG.lW {α β:AS} {S:Nat→Prop} {k:Int} {t:LT} {up:Int} (h:fG α up t) (hc:AS.n9 S k α β) (hS:∀ c∈cells t,¬ S c):fG β up t :=
 h.congr (fun c hm f=>hc.get c (hS c hm) f) (fun c hm=>by rw [hc.live])
theorem fG.up {α β:AS} {t:LT} {up up':Int} (h:fG α up t) (hn:(cells t).Nodup) (h0:∀ n:Nat,t.root = (n:Int)→β.get n 0 = up') (hg:∀ c∈cells t,∀ f,((c:Int)≠t.root∨f≠0)→β.get c f = α.get c f) (hl:∀ c∈cells t,β.live c = α.live c):fG β up' t:=by
 cases t with
 | nil=>trivial
 | node n i e l r =>
  obtain ⟨h1,h2,h3,h4,h5,h6,h7,h8⟩:=h
  simp only [cells,List.nodup_cons,List.mem_cons,List.mem_append,not_or] at hg hl hn
  have eT:∀ f,f≠0→β.get n f = α.get n f:=fun f hf=>hg n (.inl rfl) f (.inr hf)
  have hq:∀ c:Nat,c≠n→(c:Int)≠(node n i e l r).root:=fun c hc e=>hc (by simp only [root] at e;omega)
  have hi:∀ f,β.get i f = α.get i f:=fun f=>hg i (.inr (.inl rfl)) f (.inl (hq i (fun e=>hn.1.1 e.symm)))
  refine ⟨⟨(hl n (.inl rfl)).trans h1.ln,(hl i (.inr (.inl rfl))).trans h1.li,(eT 6 (by decide)).trans h1.it,(hi 9).trans h1.nd,(hi 7).trans h1.k,(hi 8).trans h1.s⟩,h0 n rfl,(eT 1 (by decide)).trans h3,(eT 2 (by decide)).trans h4,(eT 3 (by decide)).trans h5,(eT 4 (by decide)).trans h6,?_,?_⟩
  ·exact h7.congr (fun c hc f=>hg c (.inr (.inr (.inl hc))) f (.inl (hq c (fun e=>hn.1.2.1 (e▸hc))))) (fun c hc=>hl c (.inr (.inr (.inl hc))))
  ·exact h8.congr (fun c hc f=>hg c (.inr (.inr (.inr hc))) f (.inl (hq c (fun e=>hn.1.2.2 (e▸hc))))) (fun c hc=>hl c (.inr (.inr (.inr hc))))
theorem fG.live {α:AS}:∀ {t:LT} {up:Int},fG α up t→∀ c∈cells t,α.live c = true
 | nil,_,_,c,hc=>by cases hc
 | node n i e l r,up,h,c,hc=>by
  obtain ⟨h1,h2,h3,h4,h5,h6,h7,h8⟩:=h
  simp only [cells,List.mem_cons,List.mem_append] at hc
  rcases hc with rfl | rfl | hc | hc
  ·exact h1.ln
  ·exact h1.li
  ·exact h7.live c hc
  ·exact h8.live c hc
theorem fG.aCC {α:AS} {t:LT} {up:Int} (h:fG α up t):t.root = -1∨∃ y:Nat,t.root = (y:Int)∧α.live y = true:=by
 cases t with
 | nil=>exact .inl rfl
 | node n i e l r=>exact .inr ⟨n,rfl,h.1.ln⟩
theorem iO {t:LT} {n:Nat} (h:t.root = (n:Int)):n∈cells t:=by
 cases t with
 | nil=>simp only [root] at h;omega
 | node m i e l r =>
  simp only [root] at h
  have:m = n:=by omega
  subst this
  simp [cells]
theorem aJp {t:LT} (h:t.root = -1):t = nil:=by
 cases t with
 | nil=>rfl
 | node m i e l r=>simp only [root] at h;omega
theorem aKk (t:LT) : -1≤t.root:=by cases t <;> simp only [root] <;> omega
def fx (n i:Nat) (e:bR) (l r:LT):LT:=if rk l < rk r then node n i e r l else node n i e l r
def top:LT→cH
 | nil=>(0,0,0)
 | node _ i e _ _=>(i,e)
def mG:Nat→LT→LT→LT
 | 0,t,_=>t
 | _ + 1,nil,s=>s
 | _ + 1,t,nil=>t
 | k + 1,node n i e l r,node m j f a b=>if Bf (j,f) (i,e) then fx m j f a (mG k b (node n i e l r)) else fx n i e l (mG k r (node m j f a b))
def steps:Nat→LT→LT→Nat
 | 0,_,_=>0
 | _ + 1,nil,_=>0
 | _ + 1,_,nil=>0
 | k + 1,node n i e l r,node m j f a b=>if Bf (j,f) (i,e) then steps k b (node n i e l r) + 1 else steps k r (node m j f a b) + 1
theorem vS (n i:Nat) (e:bR) (l r:LT):(fx n i e l r).root = n:=by unfold fx;split <;> rfl
theorem aBb (n i:Nat) (e:bR) (l r:LT):rk (fx n i e l r) = min (rk l) (rk r) + 1:=by
 unfold fx;split <;> simp only [rk] <;> omega
theorem xC (n i:Nat) (e:bR) (l r:LT):(bY (fx n i e l r)).Perm ((i,e)::(bY l ++ bY r)):=by
 unfold fx;split
 ·exact List.Perm.cons _ List.perm_append_comm
 ·exact List.Perm.refl _
theorem qH (n i:Nat) (e:bR) (l r:LT):(cells (fx n i e l r)).Perm (n::i::(cells l ++ cells r)):=by
 unfold fx;split
 ·exact List.Perm.cons _ (List.Perm.cons _ List.perm_append_comm)
 ·exact List.Perm.refl _
theorem aBQ {n i:Nat} {e:bR} {l r:LT} (hl:Ln l) (hr:Ln r):Ln (fx n i e l r):=by
 unfold fx;split
 ·exact ⟨by omega,hr,hl⟩
 ·exact ⟨by omega,hl,hr⟩
theorem aCI {n i:Nat} {e:bR} {l r:LT} (hl:Od l) (hr:Od r) (h1:∀ x∈bY l,Bf (i,e) x) (h2:∀ x∈bY r,Bf (i,e) x):Od (fx n i e l r):=by
 unfold fx;split
 ·exact ⟨h2,h1,hr,hl⟩
 ·exact ⟨h1,h2,hl,hr⟩
theorem oN:∀ (k:Nat) (t s:LT),(bY t).length + (bY s).length≤k→(bY (mG k t s)).Perm (bY t ++ bY s)
 | 0,t,s,h=>by
  have:bY s = []:=List.eq_nil_of_length_eq_zero (by omega)
  simp [mG,this]
 | k + 1,nil,s,h=>by simp [mG,bY]
 | k + 1,node n i e l r,nil,h=>by simp [mG,bY]
 | k + 1,node n i e l r,node m j f a b,h=>by
  simp only [bY,List.length_cons,List.length_append] at h
  simp only [mG]
  split
  ·refine (xC _ _ _ _ _).trans ?_
   have h1:=oN k b (node n i e l r) (by simp only [bY,List.length_cons,List.length_append];omega)
   show List.Perm _ (bY (node n i e l r) ++ (j,f)::(bY a ++ bY b))
   refine (List.Perm.cons _ ?_).trans List.perm_middle.symm
   refine (h1.append_left _).trans ?_
   rw [←List.append_assoc]
   exact List.perm_append_comm
  ·refine (xC _ _ _ _ _).trans ?_
   have h1:=oN k r (node m j f a b) (by simp only [bY,List.length_cons,List.length_append];omega)
   show List.Perm _ (((i,e)::(bY l ++ bY r)) ++ _)
   rw [List.cons_append]
   refine List.Perm.cons _ ?_
   rw [List.append_assoc]
   exact h1.append_left _
theorem oA:∀ (k:Nat) (t s:LT),(bY t).length + (bY s).length≤k→(cells (mG k t s)).Perm (cells t ++ cells s)
 | 0,t,s,h=>by
  have:cells s = []:=List.eq_nil_of_length_eq_zero (by rw [kJ];omega)
  simp [mG,this]
 | k + 1,nil,s,h=>by simp [mG,cells]
 | k + 1,node n i e l r,nil,h=>by simp [mG,cells]
 | k + 1,node n i e l r,node m j f a b,h=>by
  simp only [bY,List.length_cons,List.length_append] at h
  simp only [mG]
  split
  ·refine (qH _ _ _ _ _).trans ?_
   have h1:=oA k b (node n i e l r) (by simp only [bY,List.length_cons,List.length_append];omega)
   show List.Perm _ (cells (node n i e l r) ++ m::j::(cells a ++ cells b))
   refine (List.Perm.cons _ ?_).trans List.perm_middle.symm
   refine (List.Perm.cons _ ?_).trans List.perm_middle.symm
   refine (h1.append_left _).trans ?_
   rw [←List.append_assoc]
   exact List.perm_append_comm
  ·refine (qH _ _ _ _ _).trans ?_
   have h1:=oA k r (node m j f a b) (by simp only [bY,List.length_cons,List.length_append];omega)
   show List.Perm _ ((n::i::(cells l ++ cells r)) ++ _)
   rw [List.cons_append,List.cons_append]
   refine List.Perm.cons _ (List.Perm.cons _ ?_)
   rw [List.append_assoc]
   exact h1.append_left _
theorem u7:∀ (k:Nat) (t s:LT),Ln t→Ln s→Ln (mG k t s)
 | 0,t,s,h,h2=>h
 | k + 1,nil,s,h,h2=>by simpa [mG] using h2
 | k + 1,node n i e l r,nil,h,h2=>by simpa [mG] using h
 | k + 1,node n i e l r,node m j f a b,h,h2=>by
  simp only [mG]
  split
  ·exact aBQ h2.2.1 (u7 k _ _ h2.2.2 h)
  ·exact aBQ h.2.1 (u7 k _ _ h.2.2 h2)
theorem vM:∀ (k:Nat) (t s:LT),(bY t).length + (bY s).length≤k→Od t→Od s→(∀ x∈bY t,∀ y∈bY s,x.1≠y.1)→Od (mG k t s)
 | 0,t,s,_,h,h2,_=>h
 | k + 1,nil,s,_,h,h2,_=>by simpa [mG] using h2
 | k + 1,node n i e l r,nil,_,h,h2,_=>by simpa [mG] using h
 | k + 1,node n i e l r,node m j f a b,hk,h,h2,hd=>by
  simp only [bY,List.length_cons,List.length_append] at hk
  simp only [mG]
  split
  ·rename_i hb
   have hk2:(bY b).length + (bY (node n i e l r)).length≤k:=by simp only [bY,List.length_cons,List.length_append];omega
   refine aCI h2.2.2.1 (vM k _ _ hk2 h2.2.2.2 h fun x hx y hy=>(hd y hy x (by simp [bY,hx])).symm) h2.1 fun x hx=>?_
   rcases List.mem_append.1 ((oN k b _ hk2).mem_iff.1 hx) with hx | hx
   ·exact h2.2.1 x hx
   ·simp only [bY,List.mem_cons,List.mem_append] at hx
    rcases hx with rfl | hx | hx
    ·exact hb
    ·exact hb.tr (h.1 x hx)
    ·exact hb.tr (h.2.1 x hx)
  ·rename_i hb
   have hk2:(bY r).length + (bY (node m j f a b)).length≤k:=by simp only [bY,List.length_cons,List.length_append];omega
   have hb':Bf (i,e) (j,f):=Bf.tot hb (hd (i,e) (by simp [bY]) (j,f) (by simp [bY])).symm
   refine aCI h.2.2.1 (vM k _ _ hk2 h.2.2.2 h2 fun x hx y hy=>hd x (by simp [bY,hx]) y hy) h.1 fun x hx=>?_
   rcases List.mem_append.1 ((oN k r _ hk2).mem_iff.1 hx) with hx | hx
   ·exact h.2.1 x hx
   ·simp only [bY,List.mem_cons,List.mem_append] at hx
    rcases hx with rfl | hx | hx
    ·exact hb'
    ·exact hb'.tr (h2.1 x hx)
    ·exact hb'.tr (h2.2.1 x hx)
theorem uC:∀ (k:Nat) (t s:LT),steps k t s≤rk t + rk s
 | 0,t,s=>by simp [steps]
 | k + 1,nil,s=>by simp [steps]
 | k + 1,node n i e l r,nil=>by simp [steps]
 | k + 1,node n i e l r,node m j f a b=>by
  simp only [steps]
  split
  ·have:=uC k b (node n i e l r);simp only [rk] at this ⊢;omega
  ·have:=uC k r (node m j f a b);simp only [rk] at this ⊢;omega
structure Cx where
 n:Nat
 i:Nat
 e:bR
 /-- The node stands to the left. -/
 l:Bool
 o:LT
def Cx.put (c:Cx) (t:LT):LT:=if c.l then node c.n c.i c.e t c.o else node c.n c.i c.e c.o t
def Cx.fx (c:Cx) (t:LT):LT:=if c.l then LT.fx c.n c.i c.e t c.o else LT.fx c.n c.i c.e c.o t
def Cx.rk (c:Cx) (k:Nat):Nat:=(if c.l then LT.rk c.o else k) + 1
def iL:List Cx→LT→LT
 | [],t=>t
 | c::cs,t=>iL cs (c.put t)
def rp:List Cx→LT→LT
 | [],t=>t
 | c::cs,t=>rp cs (c.fx t)
def upc:List Cx→Int
 | [] => -1
 | c::_=>c.n
def zN:List Cx→List cH
 | []=>[]
 | c::cs=>(c.i,c.e)::(bY c.o ++ zN cs)
def aAG:List Cx→List Nat
 | []=>[]
 | c::cs=>c.n::(aP c.o ++ aAG cs)
def fP:List Cx→List Nat
 | []=>[]
 | c::cs=>c.n::c.i::(cells c.o ++ fP cs)
theorem Cx.aAY (c:Cx) (t:LT):(c.put t).root = c.n:=by unfold put;split <;> rfl
theorem Cx.vS (c:Cx) (t:LT):(c.fx t).root = c.n:=by unfold fx;split <;> exact LT.vS _ _ _ _ _
theorem Cx.aEU (c:Cx) (t:LT):LT.rk (c.put t) = c.rk (LT.rk t):=by
 unfold put Cx.rk
 split
 ·rfl
 ·rfl
theorem Cx.aFD (c:Cx) (t:LT):(bY (c.put t)).Perm ((c.i,c.e)::(bY c.o ++ bY t)):=by
 unfold put;split
 ·exact List.Perm.cons _ List.perm_append_comm
 ·exact List.Perm.refl _
theorem Cx.aKr (c:Cx) (t:LT):(aP (c.put t)).Perm (c.n::(aP c.o ++ aP t)):=by
 unfold put;split
 ·exact List.Perm.cons _ List.perm_append_comm
 ·exact List.Perm.refl _
theorem Cx.aGy (c:Cx) (t:LT):(cells (c.put t)).Perm (c.n::c.i::(cells c.o ++ cells t)):=by
 unfold put;split
 ·exact List.Perm.cons _ (List.Perm.cons _ List.perm_append_comm)
 ·exact List.Perm.refl _
theorem Cx.xC (c:Cx) (t:LT):(bY (c.fx t)).Perm ((c.i,c.e)::(bY c.o ++ bY t)):=by
 unfold fx;split
 ·exact (LT.xC _ _ _ _ _).trans (List.Perm.cons _ List.perm_append_comm)
 ·exact LT.xC _ _ _ _ _
theorem Cx.qH (c:Cx) (t:LT):(cells (c.fx t)).Perm (c.n::c.i::(cells c.o ++ cells t)):=by
 unfold fx;split
 ·exact (LT.qH _ _ _ _ _).trans (List.Perm.cons _ (List.Perm.cons _ List.perm_append_comm))
 ·exact LT.qH _ _ _ _ _
theorem aBa:∀ (cs:List Cx) (t:LT),(bY (iL cs t)).Perm (zN cs ++ bY t)
 | [],t=>List.Perm.refl _
 | c::cs,t=>by
  refine (aBa cs (c.put t)).trans ?_
  refine ((c.aFD t).append_left _).trans ?_
  refine List.perm_middle.trans ?_
  show List.Perm _ ((c.i,c.e)::((bY c.o ++ zN cs) ++ bY t))
  refine List.Perm.cons _ ?_
  rw [←List.append_assoc]
  exact List.perm_append_comm.append_right _
theorem aDD:∀ (cs:List Cx) (t:LT),(aP (iL cs t)).Perm (aAG cs ++ aP t)
 | [],t=>List.Perm.refl _
 | c::cs,t=>by
  refine (aDD cs (c.put t)).trans ?_
  refine ((c.aKr t).append_left _).trans ?_
  refine List.perm_middle.trans ?_
  show List.Perm _ (c.n::((aP c.o ++ aAG cs) ++ aP t))
  refine List.Perm.cons _ ?_
  rw [←List.append_assoc]
  exact List.perm_append_comm.append_right _
theorem aCU {β:Type} (a b:β) (x y z:List β):(x ++ a::b::(y ++ z)).Perm (a::b::((y ++ x) ++ z)):=by
 refine List.perm_middle.trans (List.Perm.cons _ (List.perm_middle.trans (List.Perm.cons _ ?_)))
 rw [←List.append_assoc]
 exact List.perm_append_comm.append_right _
theorem jB:∀ (cs:List Cx) (t:LT),(cells (iL cs t)).Perm (fP cs ++ cells t)
 | [],t=>List.Perm.refl _
 | c::cs,t=>(jB cs (c.put t)).trans (((c.aGy t).append_left _).trans (aCU _ _ _ _ _))
theorem aFf:∀ (cs:List Cx) (t:LT),(bY (rp cs t)).Perm (zN cs ++ bY t)
 | [],t=>List.Perm.refl _
 | c::cs,t=>by
  refine (aFf cs (c.fx t)).trans ?_
  refine ((c.xC t).append_left _).trans ?_
  refine List.perm_middle.trans ?_
  show List.Perm _ ((c.i,c.e)::((bY c.o ++ zN cs) ++ bY t))
  refine List.Perm.cons _ ?_
  rw [←List.append_assoc]
  exact List.perm_append_comm.append_right _
theorem aBn:∀ (cs:List Cx) (t:LT),(cells (rp cs t)).Perm (fP cs ++ cells t)
 | [],t=>List.Perm.refl _
 | c::cs,t=>(aBn cs (c.fx t)).trans (((c.qH t).append_left _).trans (aCU _ _ _ _ _))
theorem aCQ:∀ (cs:List Cx) (t s:LT),cs≠[]→(rp cs t).root = (iL cs s).root
 | [c],t,s,_=>by simp only [rp,iL,Cx.vS,Cx.aAY]
 | c::d::cs,t,s,_=>aCQ (d::cs) (c.fx t) (c.put s) (by simp)
theorem find:∀ {t:LT} {i:Nat} {e:bR},(i,e)∈bY t→∃ cs n l r,t = iL cs (node n i e l r)
 | nil,i,e,h=>by cases h
 | node m j f l r,i,e,h=>by
  simp only [bY,List.mem_cons,List.mem_append] at h
  have key:∀ (cs:List Cx) (c:Cx) (s:LT),iL (cs ++ [c]) s = c.put (iL cs s):=by
   intro cs
   induction cs with
   | nil=>intro c s;rfl
   | cons d cs ih=>intro c s;exact ih c (d.put s)
  rcases h with h | h | h
  ·cases h
   exact ⟨[],m,l,r,rfl⟩
  ·obtain ⟨cs,n,a,b,rfl⟩:=find h
   exact ⟨cs ++ [⟨m,j,f,true,r⟩],n,a,b,by rw [key];rfl⟩
  ·obtain ⟨cs,n,a,b,rfl⟩:=find h
   exact ⟨cs ++ [⟨m,j,f,false,l⟩],n,a,b,by rw [key];rfl⟩
def aAH (α:AS):Int→Nat→List Cx→Prop
 | _,_,[]=>True
 | v,k,c::cs=>α.Nd c.n c.i c.e∧α.get c.n 0 = upc cs∧α.get c.n 1 = -1∧α.get c.n (if c.l then 2 else 3) = v∧α.get c.n (if c.l then 3 else 2) = c.o.root∧α.get c.n 4 = (c.rk k:Int)∧fG α c.n c.o∧aAH α c.n (c.rk k) cs
theorem aJW {α:AS} {up:Int} {c:Cx} {t:LT}:fG α up (c.put t)↔(α.Nd c.n c.i c.e∧α.get c.n 0 = up∧α.get c.n 1 = -1∧α.get c.n (if c.l then 2 else 3) = t.root∧α.get c.n (if c.l then 3 else 2) = c.o.root∧α.get c.n 4 = (c.rk (LT.rk t):Int)∧fG α c.n c.o)∧fG α c.n t:=by
 unfold Cx.put Cx.rk
 cases h:c.l
 ·simp only [Bool.false_eq_true,if_false,fG,Int.natCast_add,Int.natCast_one]
  constructor
  ·rintro ⟨h1,h2,h3,h4,h5,h6,h7,h8⟩;exact ⟨⟨h1,h2,h3,h5,h4,h6,h7⟩,h8⟩
  ·rintro ⟨⟨h1,h2,h3,h5,h4,h6,h7⟩,h8⟩;exact ⟨h1,h2,h3,h4,h5,h6,h7,h8⟩
 ·simp only [if_true,fG,Int.natCast_add,Int.natCast_one]
  constructor
  ·rintro ⟨h1,h2,h3,h4,h5,h6,h7,h8⟩;exact ⟨⟨h1,h2,h3,h4,h5,h6,h8⟩,h7⟩
  ·rintro ⟨⟨h1,h2,h3,h4,h5,h6,h8⟩,h7⟩;exact ⟨h1,h2,h3,h4,h5,h6,h7,h8⟩
theorem rR {α:AS}:∀ {cs:List Cx} {t:LT},fG α (-1) (iL cs t)↔aAH α t.root (LT.rk t) cs∧fG α (upc cs) t
 | [],t=>by simp [iL,aAH,upc]
 | c::cs,t=>by
  show fG α (-1) (iL cs (c.put t))↔_
  rw [rR,Cx.aAY,Cx.aEU,aJW]
  show _↔(_∧_∧_∧_∧_∧_∧_∧_)∧fG α c.n t
  constructor
  ·rintro ⟨h1,⟨h2,h3,h4,h5,h6,h7,h8⟩,h9⟩;exact ⟨⟨h2,h3,h4,h5,h6,h7,h8,h1⟩,h9⟩
  ·rintro ⟨⟨h2,h3,h4,h5,h6,h7,h8,h1⟩,h9⟩;exact ⟨h1,⟨h2,h3,h4,h5,h6,h7,h8⟩,h9⟩
theorem aAH.congr {α β:AS}:∀ {cs:List Cx} {v:Int} {k:Nat},aAH α v k cs→(∀ c∈fP cs,∀ f,β.get c f = α.get c f)→(∀ c∈fP cs,β.live c = α.live c)→aAH β v k cs
 | [],_,_,_,_,_=>trivial
 | c::cs,v,k,h,hg,hl=>by
  obtain ⟨h1,h2,h3,h4,h5,h6,h7,h8⟩:=h
  simp only [fP,List.mem_cons,List.mem_append] at hg hl
  refine ⟨h1.congr (hg _ (.inl rfl)) (hg _ (.inr (.inl rfl))) (hl _ (.inl rfl)) (hl _ (.inr (.inl rfl))),?_,?_,?_,?_,?_,?_,?_⟩
  ·rw [hg _ (.inl rfl)];exact h2
  ·rw [hg _ (.inl rfl)];exact h3
  ·rw [hg _ (.inl rfl)];exact h4
  ·rw [hg _ (.inl rfl)];exact h5
  ·rw [hg _ (.inl rfl)];exact h6
  ·exact h7.congr (fun c hc=>hg c (.inr (.inr (.inl hc)))) (fun c hc=>hl c (.inr (.inr (.inl hc))))
  ·exact h8.congr (fun c hc=>hg c (.inr (.inr (.inr hc)))) (fun c hc=>hl c (.inr (.inr (.inr hc))))
theorem aAH.lW {α β:AS} {S:Nat→Prop} {j:Int} {cs:List Cx} {v:Int} {k:Nat} (h:aAH α v k cs) (hc:AS.n9 S j α β) (hS:∀ c∈fP cs,¬ S c):aAH β v k cs :=
 h.congr (fun c hm f=>hc.get c (hS c hm) f) (fun c hm=>by rw [hc.live])
def LnC:Nat→List Cx→Prop
 | _,[]=>True
 | k,c::cs=>(if c.l then LT.rk c.o≤k else k≤LT.rk c.o)∧Ln c.o∧LnC (c.rk k) cs
theorem aLL {c:Cx} {t:LT}:Ln (c.put t)↔(if c.l then LT.rk c.o≤LT.rk t else LT.rk t≤LT.rk c.o)∧Ln c.o∧Ln t:=by
 unfold Cx.put
 split <;> simp only [Ln] <;> constructor
 ·rintro ⟨h1,h2,h3⟩;exact ⟨h1,h3,h2⟩
 ·rintro ⟨h1,h2,h3⟩;exact ⟨h1,h3,h2⟩
theorem xR:∀ {cs:List Cx} {t:LT},Ln (iL cs t)↔LnC (LT.rk t) cs∧Ln t
 | [],t=>by simp [iL,LnC]
 | c::cs,t=>by
  show Ln (iL cs (c.put t))↔_
  rw [xR,aLL,Cx.aEU]
  simp only [LnC]
  constructor
  ·rintro ⟨h1,h2,h3,h4⟩;exact ⟨⟨h2,h3,h1⟩,h4⟩
  ·rintro ⟨⟨h2,h3,h1⟩,h4⟩;exact ⟨h1,h2,h3,h4⟩
def LnO:List Cx→Prop
 | []=>True
 | c::cs=>Ln c.o∧LnO cs
theorem LnC.o:∀ {cs:List Cx} {k:Nat},LnC k cs→LnO cs
 | [],_,_=>trivial
 | c::cs,k,h=>⟨h.2.1,LnC.o h.2.2⟩
theorem Cx.aBQ {c:Cx} {t:LT} (h1:Ln c.o) (h2:Ln t):Ln (c.fx t):=by
 unfold fx;split
 ·exact LT.aBQ h2 h1
 ·exact LT.aBQ h1 h2
theorem aIO:∀ {cs:List Cx} {t:LT},LnO cs→Ln t→Ln (rp cs t)
 | [],t,_,h=>h
 | c::cs,t,h1,h=>by
  show Ln (rp cs (c.fx t))
  exact aIO (cs:=cs) h1.2 (Cx.aBQ h1.1 h)
theorem Cx.aBb {c:Cx} {t:LT}:LT.rk (c.fx t) = min (LT.rk t) (LT.rk c.o) + 1:=by
 unfold fx;split
 ·exact LT.aBb _ _ _ _ _
 ·rw [LT.aBb,Nat.min_comm]
theorem aK4 {c:Cx} {k:Nat} (h:if c.l then LT.rk c.o≤k else k≤LT.rk c.o):c.rk k = min k (LT.rk c.o) + 1:=by
 unfold Cx.rk
 split at h
 ·rename_i hl;rw [if_pos hl];omega
 ·rename_i hl;rw [if_neg hl];omega
theorem aLe {c:Cx} {t:LT} (h:if c.l then LT.rk c.o≤LT.rk t else LT.rk t≤LT.rk c.o):c.fx t = c.put t:=by
 unfold Cx.fx Cx.put LT.fx
 split
 ·rename_i hl
  rw [if_pos hl] at h
  rw [if_neg (by omega)]
 ·rename_i hl
  rw [if_neg hl] at h
  rw [if_neg (by omega)]
theorem aGi:∀ {cs:List Cx} {t:LT},LnC (LT.rk t) cs→rp cs t = iL cs t
 | [],t,_=>rfl
 | c::cs,t,h=>by
  show rp cs (c.fx t) = iL cs (c.put t)
  rw [aLe h.1]
  exact aGi (by rw [Cx.aEU];exact h.2.2)
def Abv (x:cH) (cs:List Cx):Prop:=∀ c∈cs,Bf (c.i,c.e) x
def OdC:List Cx→Prop
 | []=>True
 | c::cs=>Od c.o∧(∀ x∈bY c.o,Bf (c.i,c.e) x∧Abv x cs)∧Abv (c.i,c.e) cs∧OdC cs
theorem aLb {c:Cx} {t:LT}:Od (c.put t)↔(Od c.o∧∀ x∈bY c.o,Bf (c.i,c.e) x)∧Od t∧∀ x∈bY t,Bf (c.i,c.e) x:=by
 unfold Cx.put
 split <;> simp only [Od] <;> constructor
 ·rintro ⟨h1,h2,h3,h4⟩;exact ⟨⟨h4,h2⟩,h3,h1⟩
 ·rintro ⟨⟨h4,h2⟩,h3,h1⟩;exact ⟨h1,h2,h3,h4⟩
 ·rintro ⟨h1,h2,h3,h4⟩;exact ⟨⟨h3,h1⟩,h4,h2⟩
 ·rintro ⟨⟨h3,h1⟩,h4,h2⟩;exact ⟨h1,h2,h3,h4⟩
theorem Cx.aCI {c:Cx} {t:LT} (h1:Od c.o) (h2:∀ x∈bY c.o,Bf (c.i,c.e) x) (h3:Od t) (h4:∀ x∈bY t,Bf (c.i,c.e) x):Od (c.fx t):=by
 unfold fx;split
 ·exact LT.aCI h3 h1 h4 h2
 ·exact LT.aCI h1 h3 h2 h4
theorem aCJ:∀ {cs:List Cx} {t:LT},Od (iL cs t)↔OdC cs∧Od t∧∀ x∈bY t,Abv x cs
 | [],t=>by simp [iL,OdC,Abv]
 | c::cs,t=>by
  show Od (iL cs (c.put t))↔_
  rw [aCJ,aLb]
  have hm:∀ x,x∈bY (c.put t)↔x = (c.i,c.e)∨x∈bY c.o∨x∈bY t:=fun x=>by rw [(c.aFD t).mem_iff];simp
  simp only [OdC,hm]
  constructor
  ·rintro ⟨h1,⟨⟨h2,h3⟩,h4,h5⟩,h6⟩
   refine ⟨⟨h2,fun x hx=>⟨h3 x hx,h6 x (.inr (.inl hx))⟩,h6 _ (.inl rfl),h1⟩,h4,fun x hx=>?_⟩
   intro d hd
   rcases List.mem_cons.1 hd with rfl | hd
   ·exact h5 x hx
   ·exact h6 x (.inr (.inr hx)) d hd
  ·rintro ⟨⟨h2,h3,h4,h1⟩,h5,h6⟩
   refine ⟨h1,⟨⟨h2,fun x hx=>(h3 x hx).1⟩,h5,fun x hx=>h6 x hx c List.mem_cons_self⟩,fun x hx=>?_⟩
   rcases hx with rfl | hx | hx
   ·exact h4
   ·exact (h3 x hx).2
   ·exact fun d hd=>h6 x hx d (List.mem_cons_of_mem _ hd)
theorem aIm:∀ {cs:List Cx} {t:LT},OdC cs→Od t→(∀ x∈bY t,Abv x cs)→Od (rp cs t)
 | [],t,_,h,_=>h
 | c::cs,t,⟨h1,h2,h3,h4⟩,h5,h6=>by
  show Od (rp cs (c.fx t))
  refine aIm (cs:=cs) h4 (Cx.aCI h1 (fun x hx=>(h2 x hx).1) h5 fun x hx=>h6 x hx c List.mem_cons_self) fun x hx=>?_
  have hx':=(c.xC t).mem_iff.1 hx
  simp only [List.mem_cons,List.mem_append] at hx'
  rcases hx' with rfl | hx' | hx'
  ·exact h3
  ·exact (h2 x hx').2
  ·exact fun d hd=>h6 x hx' d (List.mem_cons_of_mem _ hd)
end LT
end HL
namespace HL
namespace LT
structure Fr where
 n:Nat
 i:Nat
 e:bR
 l:LT
def wk:Nat→LT→LT→List Fr × LT
 | 0,t,_=>([],t)
 | _ + 1,nil,s=>([],s)
 | _ + 1,t,nil=>([],t)
 | k + 1,node n i e l r,node m j f a b=>if Bf (j,f) (i,e) then (⟨m,j,f,a⟩::(wk k b (node n i e l r)).1,(wk k b (node n i e l r)).2) else (⟨n,i,e,l⟩::(wk k r (node m j f a b)).1,(wk k r (node m j f a b)).2)
def upF (p:List Fr) (u:LT):LT:=p.foldr (fun f m=>fx f.n f.i f.e f.l m) u
def Fr.cells (f:Fr):List Nat:=f.n::f.i::LT.cells f.l
def qQ (p:List Fr):List Nat:=p.flatMap Fr.cells
structure aGz (α:AS) (f:Fr):Prop where
 nd:α.Nd f.n f.i f.e
 d:α.get f.n 1 = -1
 l:α.get f.n 2 = f.l.root
 r:fG α f.n f.l
theorem aGz.lW {α β:AS} {S:Nat→Prop} {k:Int} {f:Fr} (h:aGz α f) (hc:AS.n9 S k α β) (hS:∀ c∈f.cells,¬ S c):aGz β f:=by
 have hn:=hS f.n (by simp [Fr.cells])
 have hi:=hS f.i (by simp [Fr.cells])
 exact ⟨h.nd.congr (hc.get _ hn) (hc.get _ hi) (by rw [hc.live]) (by rw [hc.live]),(hc.get _ hn 1).trans h.d,(hc.get _ hn 2).trans h.l,h.r.lW hc fun c hm=>hS c (by simp [Fr.cells,hm])⟩
theorem aCK:∀ (k:Nat) (t s:LT),mG k t s = upF (wk k t s).1 (wk k t s).2
 | 0,t,s=>rfl
 | k + 1,nil,s=>by simp [mG,wk,upF]
 | k + 1,node n i e l r,nil=>by simp [mG,wk,upF]
 | k + 1,node n i e l r,node m j f a b=>by
  simp only [mG,wk]
  split
  ·rw [aCK k];rfl
  ·rw [aCK k];rfl
theorem yO:∀ (k:Nat) (t s:LT),(wk k t s).1.length = steps k t s
 | 0,t,s=>rfl
 | k + 1,nil,s=>by simp [steps,wk]
 | k + 1,node n i e l r,nil=>by simp [steps,wk]
 | k + 1,node n i e l r,node m j f a b=>by
  simp only [steps,wk]
  split
  ·simp only [List.length_cons,yO k]
  ·simp only [List.length_cons,yO k]
theorem yY:∀ (k:Nat) (t s:LT),(bY t).length + (bY s).length≤k→(qQ (wk k t s).1 ++ cells (wk k t s).2).Perm (cells t ++ cells s)
 | 0,t,s,h=>by
  have:cells s = []:=List.eq_nil_of_length_eq_zero (by rw [kJ];omega)
  simp [wk,qQ,this]
 | k + 1,nil,s,h=>by simp [wk,qQ,cells]
 | k + 1,node n i e l r,nil,h=>by simp [wk,qQ,cells]
 | k + 1,node n i e l r,node m j f a b,h=>by
  simp only [bY,List.length_cons,List.length_append] at h
  simp only [wk]
  split
  ·have h1:=yY k b (node n i e l r) (by simp only [bY,List.length_cons,List.length_append];omega)
   show List.Perm (m::j::(cells a ++ qQ (wk k b (node n i e l r)).1) ++ cells (wk k b (node n i e l r)).2) (cells (node n i e l r) ++ m::j::(cells a ++ cells b))
   rw [List.cons_append,List.cons_append]
   refine (List.Perm.cons _ ?_).trans List.perm_middle.symm
   refine (List.Perm.cons _ ?_).trans List.perm_middle.symm
   rw [List.append_assoc]
   refine (h1.append_left _).trans ?_
   rw [←List.append_assoc]
   exact List.perm_append_comm
  ·have h1:=yY k r (node m j f a b) (by simp only [bY,List.length_cons,List.length_append];omega)
   show List.Perm (n::i::(cells l ++ qQ (wk k r (node m j f a b)).1) ++ cells (wk k r (node m j f a b)).2) (n::i::(cells l ++ cells r) ++ cells (node m j f a b))
   rw [List.cons_append,List.cons_append,List.cons_append,List.cons_append]
   refine List.Perm.cons _ (List.Perm.cons _ ?_)
   rw [List.append_assoc,List.append_assoc]
   exact h1.append_left _
theorem aEZ {α:AS}:∀ (k:Nat) (t s:LT) {u v:Int},fG α u t→fG α v s→(∀ f∈(wk k t s).1,aGz α f)∧∃ x,fG α x (wk k t s).2
 | 0,t,s,u,v,h,_=>⟨by simp [wk],u,h⟩
 | k + 1,nil,s,u,v,_,h=>⟨by simp [wk],v,by simpa [wk] using h⟩
 | k + 1,node n i e l r,nil,u,v,h,_=>⟨by simp [wk],u,by simpa [wk] using h⟩
 | k + 1,node n i e l r,node m j f a b,u,v,h,h2=>by
  simp only [wk]
  split
  ·obtain ⟨g1,g2⟩:=aEZ k b (node n i e l r) h2.2.2.2.2.2.2.2 h
   refine ⟨fun x hx=>?_,g2⟩
   rcases List.mem_cons.1 hx with rfl | hx
   ·exact ⟨h2.1,h2.2.2.1,h2.2.2.2.1,h2.2.2.2.2.2.2.1⟩
   ·exact g1 x hx
  ·obtain ⟨g1,g2⟩:=aEZ k r (node m j f a b) h.2.2.2.2.2.2.2 h2
   refine ⟨fun x hx=>?_,g2⟩
   rcases List.mem_cons.1 hx with rfl | hx
   ·exact ⟨h.1,h.2.2.1,h.2.2.2.1,h.2.2.2.2.2.2.1⟩
   ·exact g1 x hx
theorem zK {t:LT} {n:Nat} (h:t.root = (n:Int)):n∈aP t:=by
 cases t with
 | nil=>simp only [root] at h;omega
 | node m i e l r =>
  simp only [root] at h
  have:m = n:=by omega
  subst this
  simp [aP]
theorem aC3:∀ (k:Nat) (t s:LT),(∀ f∈(wk k t s).1,f.n∈aP t∨f.n∈aP s)∧∀ c:Nat,(wk k t s).2.root = (c:Int)→c∈aP t∨c∈aP s
 | 0,t,s=>⟨by simp [wk],fun c hc=>.inl (zK hc)⟩
 | k + 1,nil,s=>⟨by simp [wk],fun c hc=>.inr (zK (by simpa [wk] using hc))⟩
 | k + 1,node n i e l r,nil=>⟨by simp [wk],fun c hc=>.inl (zK (by simpa [wk] using hc))⟩
 | k + 1,node n i e l r,node m j f a b=>by
  simp only [wk]
  split
  ·obtain ⟨g1,g2⟩:=aC3 k b (node n i e l r)
   refine ⟨fun x hx=>?_,fun c hc=>?_⟩
   ·rcases List.mem_cons.1 hx with rfl | hx
    ·exact .inr (by simp [aP])
    ·rcases g1 x hx with h | h
     ·exact .inr (by simp [aP,h])
     ·exact .inl h
   ·rcases g2 c hc with h | h
    ·exact .inr (by simp [aP,h])
    ·exact .inl h
  ·obtain ⟨g1,g2⟩:=aC3 k r (node m j f a b)
   refine ⟨fun x hx=>?_,fun c hc=>?_⟩
   ·rcases List.mem_cons.1 hx with rfl | hx
    ·exact .inl (by simp [aP])
    ·rcases g1 x hx with h | h
     ·exact .inl (by simp [aP,h])
     ·exact .inr h
   ·rcases g2 c hc with h | h
    ·exact .inl (by simp [aP,h])
    ·exact .inr h
theorem aJg:∀ (k:Nat) (t s:LT),(bY t).length + (bY s).length≤k→(t≠nil∨s≠nil)→(wk k t s).2≠nil
 | 0,t,s,h,h2=>by
  cases t with
  | node n i e l r=>simp only [bY,List.length_cons] at h;omega
  | nil =>
   cases s with
   | node n i e l r=>simp only [bY,List.length_cons] at h;omega
   | nil=>rcases h2 with h2 | h2 <;> exact absurd rfl h2
 | k + 1,nil,s,h,h2=>by
  rcases h2 with h2 | h2
  ·exact absurd rfl h2
  ·simpa [wk] using h2
 | k + 1,node n i e l r,nil,h,h2=>by simp [wk]
 | k + 1,node n i e l r,node m j f a b,h,h2=>by
  simp only [bY,List.length_cons,List.length_append] at h
  simp only [wk]
  split
  ·exact aJg k _ _ (by simp only [bY,List.length_cons,List.length_append];omega) (.inr (by simp))
  ·exact aJg k _ _ (by simp only [bY,List.length_cons,List.length_append];omega) (.inr (by simp))
theorem yA:∀ (t:LT),rk t≤(bY t).length
 | nil=>Nat.le_refl _
 | node n i e l r=>by have:=yA r;simp only [rk,bY,List.length_cons,List.length_append];omega
end LT
section
variable {w0:World} {M F:Mem} {R:VP} {a:Nat} {α:AS}
open Go.Proofs.YtodobkbnmjgkdaaGreat.HL.LT
theorem aAW (hA:aA w0 F M (aF a α)) {t:LT} {up:Int} (ht:fG α up t) (h:∀ M' β,aA w0 F M' (aF a β)→AS.Sm 1 α β→R (.int .i64 (rk t:Int)) M'):C PP w0 Id.o0 #[.pointer (some ⟨a,0,none⟩),.int .i64 t.root] R M:=by
 apply o0.go
 unfold o0.T aH
 cases t with
 | nil =>
  simp only [root,fJ,if_true]
  exact h M α hA (AS.Sm.refl.mono (by omega))
 | node n i e l r =>
  simp only [root,fJ]
  rw [if_neg (by omega)]
  refine qU hA fun M1 hA1=>?_
  rw [show α.jW (n:Int) 4 = α.get n 4 from AS.iV (f:=4) ht.1.ln (by omega),ht.2.2.2.2.2.1]
  simp only [go_sem]
  exact h M1 _ hA1 AS.aO
theorem aAo (hA:aA w0 F M (aF a α)) {n i:Nat} {e:bR} {l r:LT} (hN:α.Nd n i e) (hd:α.get n 1 = -1) (e2:α.get n 2 = l.root) (e3:α.get n 3 = r.root) (hl:fG α n l) (hr:fG α n r) (hnl:n ∉ cells l) (hnr:n ∉ cells r) (hni:i≠n) (kl:rk l≤1000000) (kr:rk r≤1000000)
  (h:∀ M' β,aA w0 F M' (aF a β)→fG β (α.get n 0) (fx n i e l r)→AS.n9 (· = n) 8 α β→R (.bool (α.get n 4 != ((rk (fx n i e l r):Nat):Int))) M'):C PP w0 Id.iX #[.pointer (some ⟨a,0,none⟩),.int .i64 (n:Int)] R M:=by
 apply iX.go
 intro aB H
 unfold iX.T aH
 have hI:=hA.inv
 refine eZ hA fun M1 hA1=>?_
 rw [show α.fR (n:Int) 2 = l.root from AS.kP hI (f:=2) hN.ln (by omega) e2 hl.aCC]
 simp only [go_sem]
 refine eZ hA1 fun M2 hA2=>?_
 rw [show α.tick.fR (n:Int) 3 = r.root from AS.kP (α:=α.tick) (AS.qJ hI) (f:=3) hN.ln (by omega) e3 hr.aCC]
 simp only [go_sem]
 have s2:AS.Sm 2 α α.tick.tick:=(AS.aO.trans AS.aO).mono (by omega)
 refine aAW hA2 (hl.lW s2.lW (S:=fun _=>False) (fun _ _ h=>h)) fun M3 β3 hA3 s3=>?_
 simp only [go_sem]
 refine aAW hA3 (hr.lW (s2.trans s3).lW (S:=fun _=>False) (fun _ _ h=>h)) fun M4 β4 hA4 s4=>?_
 have s:AS.Sm 4 α β4:=((s2.trans s3).trans s4).mono (by omega)
 have hN4:β4.Nd n i e:=s.nd hN
 simp only [go_sem,cR]
 have fin:∀ (M5:Mem) (γ:AS) (low:Nat),low≤1000000→aA w0 F M5 (aF a γ)→γ.Nd n i e→AS.n9 (· = n) 6 α γ→γ.get n 4 = α.get n 4→low + 1 = rk (fx n i e l r) →
   (∀ β,AS.Sm 2 (γ.put n 4 ((low:Int) + 1)) β→fG β (α.get n 0) (fx n i e l r))→iX.J1 aB (some ⟨a,0,none⟩) (n:Int) (low:Int) M5:=by
  intro M5 γ low hlow hA5 hN5 hc5 h45 hfx hrep
  refine Eq.mpr (H.J1 ..) ?_
  unfold iX.J1.T aH
  refine qU hA5 fun M6 hA6=>?_
  rw [show γ.jW (n:Int) 4 = γ.get n 4 from AS.iV (f:=4) hN5.ln (by omega),h45]
  simp only [go_sem]
  refine iA hA6 fun M7 hA7=>?_
  simp only [go_sem]
  rw [aQ (by omega)] at hA7 ⊢
  rw [show γ.tick.mC (n:Int) 4 ((low:Int) + 1) = γ.tick.put n 4 ((low:Int) + 1) from AS.cU (α:=γ.tick) (f:=4) hN5.ln (by omega) _] at hA7
  have s7:AS.Sm 2 (γ.put n 4 ((low:Int) + 1)) (γ.tick.put n 4 ((low:Int) + 1)).tick:=(((AS.aO (α:=γ)).put n 4 _).trans AS.aO).mono (by omega)
  have hh:=h M7 _ hA7 (hrep _ s7) (((hc5.put rfl).trans s7.lW).mono (fun _ h=>h) (by omega))
  rw [←hfx] at hh
  rw [show ((low + 1:Nat):Int) = (low:Int) + 1 from by omega] at hh
  exact hh
 split
 ·rename_i hlt
  have hlt':rk l < rk r:=by omega
  refine iA hA4 fun M5 hA5=>?_
  simp only [go_sem]
  rw [show β4.mC (n:Int) 2 r.root = β4.put n 2 r.root from AS.cU (f:=2) hN4.ln (by omega) _] at hA5
  refine iA hA5 fun M6 hA6=>?_
  simp only [go_sem]
  rw [show (β4.put n 2 r.root).tick.mC (n:Int) 3 l.root = (β4.put n 2 r.root).tick.put n 3 l.root from AS.cU (α:=(β4.put n 2 r.root).tick) (f:=3) hN4.ln (by omega) _] at hA6
  have c6:AS.n9 (· = n) 6 α (((β4.put n 2 r.root).tick.put n 3 l.root).tick):=(((((s.lW (S:=(· = n))).put rfl).tick).put rfl).tick).mono (fun _ h=>h) (by omega)
  have s6:AS.Sm 2 ((β4.put n 2 r.root).put n 3 l.root) (((β4.put n 2 r.root).tick.put n 3 l.root).tick):=(((AS.aO (α:=β4.put n 2 r.root)).put n 3 _).trans AS.aO).mono (by omega)
  refine fin M6 _ (rk l) kl hA6 ⟨hN4.ln,hN4.li,?_,?_,?_,?_⟩ c6 ?_ ?_ fun β hβ=>?_
  ·rw [s6.get,AS.eQ,if_neg (by omega),AS.eQ,if_neg (by omega)];exact hN4.it
  ·rw [s6.get,AS.eQ,if_neg (by omega),AS.eQ,if_neg (by omega)];exact hN4.nd
  ·rw [s6.get,AS.eQ,if_neg (by omega),AS.eQ,if_neg (by omega)];exact hN4.k
  ·rw [s6.get,AS.eQ,if_neg (by omega),AS.eQ,if_neg (by omega)];exact hN4.s
  ·rw [s6.get,AS.eQ,if_neg (by omega),AS.eQ,if_neg (by omega),s.get]
  ·rw [aBb];omega
  ·unfold fx
   rw [if_pos hlt']
   have cβ:AS.n9 (· = n) 8 α β:=((c6.put rfl).trans hβ.lW).mono (fun _ h=>h) (by omega)
   have g:∀ f,f≠2→f≠3→f≠4→β.get n f = α.get n f:=fun f h2 h3 h4=>by
    rw [hβ.get,AS.eQ,if_neg (by omega),s6.get,AS.eQ,if_neg (by omega),AS.eQ,if_neg (by omega),s.get]
   have gi:∀ f,β.get i f = α.get i f:=cβ.get i hni
   refine ⟨⟨by rw [cβ.live];exact hN.ln,by rw [cβ.live];exact hN.li,(g 6 (by omega) (by omega) (by omega)).trans hN.it,(gi 9).trans hN.nd,(gi 7).trans hN.k,(gi 8).trans hN.s⟩,g 0 (by omega) (by omega) (by omega),(g 1 (by omega) (by omega) (by omega)).trans hd,?_,?_,?_,hr.lW cβ (fun c hc e=>hnr (e▸hc)),hl.lW cβ (fun c hc e=>hnl (e▸hc))⟩
   ·rw [hβ.get,AS.eQ,if_neg (by omega),s6.get,AS.eQ,if_neg (by omega),AS.eQ,if_pos ⟨rfl,rfl⟩]
   ·rw [hβ.get,AS.eQ,if_neg (by omega),s6.get,AS.eQ,if_pos ⟨rfl,rfl⟩]
   ·rw [hβ.get,AS.eQ,if_pos ⟨rfl,rfl⟩]
 ·rename_i hlt
  have hlt':¬ rk l < rk r:=by omega
  refine fin M4 _ (rk r) kr hA4 hN4 (s.lW.mono (fun _ h=>h) (by omega)) (by rw [s.get]) (by rw [aBb];omega) fun β hβ=>?_
  unfold fx
  rw [if_neg hlt']
  have cβ:AS.n9 (· = n) 8 α β:=(((s.lW (S:=(· = n))).put rfl).trans hβ.lW).mono (fun _ h=>h) (by omega)
  have g:∀ f,f≠4→β.get n f = α.get n f:=fun f h4=>by
   rw [hβ.get,AS.eQ,if_neg (by omega),s.get]
  have gi:∀ f,β.get i f = α.get i f:=cβ.get i hni
  refine ⟨⟨by rw [cβ.live];exact hN.ln,by rw [cβ.live];exact hN.li,(g 6 (by omega)).trans hN.it,(gi 9).trans hN.nd,(gi 7).trans hN.k,(gi 8).trans hN.s⟩,g 0 (by omega),(g 1 (by omega)).trans hd,(g 2 (by omega)).trans e2,(g 3 (by omega)).trans e3,?_,hl.lW cβ (fun c hc e=>hnl (e▸hc)),hr.lW cβ (fun c hc e=>hnr (e▸hc))⟩
  rw [hβ.get,AS.eQ,if_pos ⟨rfl,rfl⟩]
theorem aLr {β γ:AS} {f:Fr} {m:LT} {um:Int} {tp:Nat} (hf:aGz β f) (hm:fG β um m) (hr:m.root = (tp:Int)) (hn:(f.cells ++ cells m).Nodup) (hs:AS.Sm 2 ((β.put f.n 3 m.root).put tp 0 (f.n:Int)) γ) :
  γ.Nd f.n f.i f.e∧γ.get f.n 1 = -1∧γ.get f.n 2 = f.l.root∧γ.get f.n 3 = m.root∧γ.get f.n 0 = β.get f.n 0∧fG γ f.n f.l∧fG γ f.n m:=by
 simp only [Fr.cells,List.cons_append,List.nodup_cons,List.mem_cons,List.mem_append,not_or] at hn
 obtain ⟨⟨a1,a2,a3⟩,⟨b1,b2⟩,hn2⟩:=hn
 obtain ⟨_,hnm,hdis⟩:=List.nodup_append.1 hn2
 have htm:tp∈cells m:=iO hr
 have e1:f.n≠tp:=fun e=>a3 (e▸htm)
 have e2:f.i≠tp:=fun e=>b2 (e▸htm)
 have g:∀ c f',γ.get c f' = if c = tp∧f' = 0 then (f.n:Int) else if c = f.n∧f' = 3 then m.root else β.get c f':=fun c f'=>by rw [hs.get];rfl
 have gl:∀ c,γ.live c = β.live c:=fun c=>by rw [hs.live];rfl
 have gn:∀ f',f'≠3→γ.get f.n f' = β.get f.n f':=fun f' h3=>by rw [g,if_neg (fun e=>e1 e.1),if_neg (fun e=>h3 e.2)]
 have gi:∀ f',γ.get f.i f' = β.get f.i f':=fun f'=>by rw [g,if_neg (fun e=>e2 e.1),if_neg (fun e=>a1 e.1.symm)]
 refine ⟨⟨(gl _).trans hf.nd.ln,(gl _).trans hf.nd.li,(gn 6 (by omega)).trans hf.nd.it,(gi 9).trans hf.nd.nd,(gi 7).trans hf.nd.k,(gi 8).trans hf.nd.s⟩,(gn 1 (by omega)).trans hf.d,(gn 2 (by omega)).trans hf.l,?_,gn 0 (by omega),?_,?_⟩
 ·rw [g,if_neg (fun e=>e1 e.1),if_pos ⟨rfl,rfl⟩]
 ·refine hf.r.congr (fun c hc f'=>?_) (fun c _=>gl c)
  rw [g,if_neg (fun e:c = tp∧f' = 0=>hdis c hc tp htm e.1),if_neg (fun e:c = f.n∧f' = 3=>a2 (e.1▸hc))]
 ·refine hm.up hnm (fun n hn=>?_) (fun c hc f' h=>?_) (fun c _=>gl c)
  ·have:n = tp:=by omega
   rw [g,if_pos ⟨this,rfl⟩]
  ·rw [g,if_neg (fun e:c = tp∧f' = 0=>by rcases h with h | h;exact h (by rw [hr,e.1]);exact h e.2),if_neg (fun e:c = f.n∧f' = 3=>a3 (e.1▸hc))]
theorem aMf (n i:Nat) (e:bR) (l r:LT):fx n i e l r≠nil:=by
 unfold fx;split <;> simp
theorem rL (hA:aA w0 F M (aF a α)) {t s:LT} {ut us:Int} (ht:fG α ut t) (hs:fG α us s) (hn:(cells t ++ cells s).Nodup) {k:Nat} (hk:(bY t).length + (bY s).length≤k)
  (h:∀ M' β,aA w0 F M' (aF a β)→fG β (-1) (mG k t s)→AS.n9 (fun c=>c∈aP t∨c∈aP s) (17 * (rk t + rk s) + 1) α β→R (.int .i64 (mG k t s).root) M'):C PP w0 Id.bE #[.pointer (some ⟨a,0,none⟩),.int .i64 t.root,.int .i64 s.root] R M:=by
 apply bE.go
 intro aB H
 unfold bE.T aH
 have hI:=hA.inv
 rw [fJ]
 split
 ·rename_i he
  have hnil:t = nil∧s = nil:=by
   cases t with
   | nil=>exact ⟨rfl,aJp he.symm⟩
   | node n i e l r =>
    exfalso
    have h1:n∈cells (node n i e l r):=by simp [cells]
    have h2:n∈cells s:=iO he.symm
    exact (List.nodup_append.1 hn).2.2 n h1 n h2 rfl
  obtain ⟨rfl,rfl⟩:=hnil
  have e:mG k nil nil = nil:=by cases k <;> rfl
  rw [e] at h
  exact h M α hA trivial (AS.n9.refl.mono (fun _ h=>h) (by simp [rk]))
 ·rename_i eT
  have hnn:t≠nil∨s≠nil:=by
   cases t with
   | nil=>exact .inr fun e=>eT (by rw [e])
   | node n i e l r=>exact .inl (by simp)
  have hlive:∀ c∈cells t ++ cells s,α.live c = true:=fun c hc=>by
   rcases List.mem_append.1 hc with hc | hc
   ·exact ht.live c hc
   ·exact hs.live c hc
  have hclen:=m6 α.n _ hn fun x hx=>AS.cJ hI (hlive x hx)
  have hn65:=hI.n
  rw [List.length_append,kJ,kJ] at hclen
  have up:∀ (q done:List Fr) (m:LT) (um:Int) (sP:SV) (F':Mem) (M':Mem) (β:AS) (tp:Nat),Mem.le F F'→(wk k t s).1 = q ++ done→m = upF done (wk k t s).2→m.root = (tp:Int)→qO w0 F' .i64 sP (aY ((wk k t s).1.map (·.n)))→aA w0 F' M' (aF a β)→(∀ M'' P,aA w0 F' M'' P→aA w0 F M'' P) →
    (∀ f∈q,aGz β f)→fG β um m→(qQ q ++ cells m).Nodup→(tp∈aP t∨tp∈aP s)→rk m≤1000000→AS.n9 (fun c=>c∈aP t∨c∈aP s) (7 * ((wk k t s).1.length:Int) + 10 * (done.length:Int)) α β →
    ∀ kk,q.length < kk→bE.L3 aB kk (some ⟨a,0,none⟩) sP (tp:Int) ((q.length:Int) - 1) M':=by
   intro q
   induction hq:q.length generalizing q with
   | zero =>
    intro done m um sP F' M' β tp hle hqd hm hr hP hB hfb hf hrep fW htp hrk hc kk hkk
    obtain ⟨kk,rfl⟩:∃ j,kk = j + 1:=⟨kk - 1,by omega⟩
    have hq0:q = []:=List.eq_nil_of_length_eq_zero hq
    subst hq0
    refine Eq.mpr (H.L3 ..) ?_
    unfold bE.L3.T aH
    rw [cR,if_neg (by omega)]
    have htl:β.live tp = true:=hrep.live tp (iO hr)
    refine iA hB fun M2 hB2=>?_
    rw [show β.mC (tp:Int) 0 (-1) = β.put tp 0 (-1) from AS.cU (f:=0) htl (by omega) _] at hB2
    simp only [go_sem]
    have e:mG k t s = m:=by rw [aCK,hqd,hm];rfl
    rw [e] at h
    rw [←hr]
    have hlen:=yO k t s
    have hst:=uC k t s
    rw [hqd,List.nil_append] at hlen hc
    refine h M2 _ (hfb _ _ hB2) ?_ (((hc.put htp).tick).mono (fun _ h=>h) (by omega))
    refine hrep.up (List.nodup_append.1 fW).2.1 (fun n hn=>?_) (fun c hc f' h=>?_) (fun c _=>rfl)
    ·have:n = tp:=by omega
     show (β.put tp 0 (-1)).get n 0 = -1
     rw [AS.eQ,if_pos ⟨this,rfl⟩]
    ·show (β.put tp 0 (-1)).get c f' = _
     rw [AS.eQ,if_neg (fun e:c = tp∧f' = 0=>by rcases h with h | h;exact h (by rw [hr,e.1]);exact h e.2)]
   | succ len ih =>
    intro done m um sP F' M' β tp hle hqd hm hr hP hB hfb hf hrep fW htp hrk hc kk hkk
    obtain ⟨kk,rfl⟩:∃ j,kk = j + 1:=⟨kk - 1,by omega⟩
    obtain ⟨q',f,rfl⟩:∃ q' f,q = q' ++ [f]:=⟨q.dropLast,q.getLast (by intro e;rw [e] at hq;simp at hq),(List.dropLast_concat_getLast _).symm⟩
    have hq':q'.length = len:=by simp at hq;exact hq
    have hlenP:(wk k t s).1.length≤65536:=by
     have h1:=yO k t s
     have h2:=uC k t s
     have h3:=yA t
     have h4:=yA s
     omega
    have hlq:len + 1≤65536:=by rw [hqd] at hlenP;simp only [List.length_append,List.length_cons,List.length_nil] at hlenP;omega
    refine Eq.mpr (H.L3 ..) ?_
    unfold bE.L3.T aH
    rw [cR,if_pos (by omega)]
    have hx:(aY ((wk k t s).1.map (·.n)))[len]? = some (f.n:Int):=by
     rw [hqd]
     simp [aY,List.getElem?_append,hq']
    have hfo:=hf f (by simp)
    have htl:β.live tp = true:=hrep.live tp (iO hr)
    refine rdx (x:=(f.n:Int)) W.c3 hP hB.fr len (by omega) hx ?_
    refine iA hB fun M2 hB2=>?_
    rw [show β.mC (f.n:Int) 3 (tp:Int) = β.put f.n 3 (tp:Int) from AS.cU (f:=3) hfo.nd.ln (by omega) _] at hB2
    simp only [go_sem]
    have hld:∀ (M2:Mem),aA w0 F' M2 (aF a β)→True:=fun _ _=>trivial
    refine rdy (x:=(f.n:Int)) hP hB2.fr len (by omega) hx ?_
    refine iA hB2 fun M3 hB3=>?_
    rw [show (β.put f.n 3 (tp:Int)).tick.mC (tp:Int) 0 (f.n:Int) = (β.put f.n 3 (tp:Int)).tick.put tp 0 (f.n:Int) from AS.cU (α:=(β.put f.n 3 (tp:Int)).tick) (f:=0) htl (by omega) _] at hB3
    simp only [go_sem]
    refine rdy (x:=(f.n:Int)) hP hB3.fr len (by omega) hx ?_
    have hs3:AS.Sm 2 ((β.put f.n 3 m.root).put tp 0 (f.n:Int)) ((β.put f.n 3 (tp:Int)).tick.put tp 0 (f.n:Int)).tick:=by
     rw [hr]
     exact (((AS.aO (α:=β.put f.n 3 (tp:Int))).put tp 0 _).trans AS.aO).mono (by omega)
    have hcf:(f.cells ++ cells m).Nodup:=by
     unfold qQ at fW
     rw [List.flatMap_append,List.append_assoc] at fW
     have:=(List.nodup_append.1 fW).2.1
     simpa using this
    obtain ⟨g1,g2,g3,g4,g5,g6,g7⟩:=aLr hfo hrep hr hcf hs3
    have hnodes:f.n∈aP t∨f.n∈aP s:=(aC3 k t s).1 f (by rw [hqd];simp)
    have hcc:=hcf
    simp only [Fr.cells,List.cons_append,List.nodup_cons,List.mem_cons,List.mem_append,not_or] at hcc
    obtain ⟨⟨a1,a2,a3⟩,⟨b1,b2⟩,hn2⟩:=hcc
    have hfmem:∀ c∈f.cells,c∈cells t ++ cells s:=fun c hc=>(yY k t s hk).mem_iff.1 (List.mem_append_left _ (by
     rw [hqd];unfold qQ
     simp only [List.flatMap_append,List.mem_append,List.flatMap_cons,List.flatMap_nil,List.append_nil]
     exact .inl (.inr hc)))
    have hfl:rk f.l≤65536:=by
     have h1:=yA f.l
     have h2:=kJ f.l
     have h3:(cells f.l).Nodup:=(List.nodup_append.1 hn2).1
     have h4:=m6 α.n _ h3 fun x hx=>AS.cJ hI (hlive x (hfmem x (by simp [Fr.cells,hx])))
     omega
    refine aAo hB3 g1 g2 g3 g4 g6 g7 a2 a3 (fun e=>a1 e.symm) (by omega) hrk fun M4 β4 hB4 hrep4 hc4=>?_
    simp only [go_sem]
    rw [show lN ((((len + 1:Nat):Int)) - 1 - 1) = (len:Int) - 1 from by rw [aQ (by omega)];omega]
    have c3:AS.n9 (fun c=>c = f.n∨c = tp) 2 β ((β.put f.n 3 (tp:Int)).tick.put tp 0 (f.n:Int)).tick:=by
     have:=((((AS.n9.refl (S:=fun c=>c = f.n∨c = tp) (α:=β)).put (f:=3) (v:=(tp:Int)) (.inl rfl)).tick).put (f:=0) (v:=(f.n:Int)) (.inr rfl)).tick
     exact this.mono (fun _ h=>h) (by omega)
    have c4:AS.n9 (fun c=>c = f.n∨c = tp) 10 β β4:=(c3.trans (hc4.mono (T:=fun c=>c = f.n∨c = tp) (fun c h=>.inl h) (Int.le_refl _))).mono (fun _ h=>h) (by omega)
    have htm:tp∈cells m:=iO hr
    have hndq:(qQ q' ++ (f.cells ++ cells m)).Nodup:=by
     unfold qQ at fW ⊢
     rw [List.flatMap_append,List.append_assoc] at fW
     simpa using fW
    obtain ⟨q1,q2,q3⟩:=List.nodup_append.1 hndq
    have hperm:(cells (fx f.n f.i f.e f.l m)).Perm (f.cells ++ cells m):=qH _ _ _ _ _
    refine ih q' hq' (f::done) (fx f.n f.i f.e f.l m) _ sP F' M4 β4 f.n hle (by rw [hqd];simp) (by rw [hm];rfl) (vS _ _ _ _ _) hP hB4 hfb (fun x hx=>?_) hrep4 ?_ hnodes ?_ ?_ kk (by omega)
    ·refine (hf x (by simp [hx])).lW c4 fun c hc e=>?_
     have hcm:c∈qQ q':=List.mem_flatMap.2 ⟨x,hx,hc⟩
     rcases e with rfl | rfl
     ·exact q3 _ hcm _ (List.mem_append_left _ (by simp [Fr.cells])) rfl
     ·exact q3 _ hcm _ (List.mem_append_right _ htm) rfl
    ·exact (hperm.append_left _).nodup_iff.2 hndq
    ·rw [aBb];omega
    ·refine (hc.trans (c4.mono (fun c h=>?_) (Int.le_refl _))).mono (fun _ h=>h) (by simp only [List.length_cons];omega)
     rcases h with rfl | rfl
     ·exact hnodes
     ·exact htp
  have down:∀ (kd:Nat) (x y:LT) (p:List Fr) (ux uy:Int) (sP:SV) (M':Mem) (β:AS),(bY x).length + (bY y).length≤kd→p ++ (wk kd x y).1 = (wk k t s).1→(wk kd x y).2 = (wk k t s).2→(x≠nil∨y≠nil)→fG α ux x→fG α uy y →
    aA w0 F M' (star (pS sP ((aY (p.map (·.n))).map (Value.int .i64))) (aF a β))→AS.Sm (7 * (p.length:Int)) α β→∀ kk,kd < kk→bE.L2 aB kk (some ⟨a,0,none⟩) x.root y.root sP M':=by
   intro kd
   have out:∀ (x y:LT) (sP:SV) (M':Mem) (β:AS) (rx ry:Int),(if ry > rx then ry else rx) = (wk k t s).2.root→aA w0 F M' (star (pS sP ((aY ((wk k t s).1.map (·.n))).map (Value.int .i64))) (aF a β))→AS.Sm (7 * ((wk k t s).1.length:Int)) α β→bE.J1 aB (some ⟨a,0,none⟩) rx ry sP M':=by
    intro x y sP M' β rx ry hmax hH hsm
    refine Eq.mpr (H.J1 ..) ?_
    unfold bE.J1.T aH
    rw [hmax]
    have hne2:=aJg k t s hk hnn
    obtain ⟨hfr,um,hum⟩:=aEZ k t s ht hs
    have hper:=yY k t s hk
    have hlenP:(wk k t s).1.length≤65536:=by
     have h1:=yO k t s
     have h2:=uC k t s
     have h3:=yA t
     have h4:=yA s
     omega
    have hPl:∀ c∈(wk k t s).1.map (·.n),c < 65536:=fun c hc=>by
     obtain ⟨f,hf,rfl⟩:=List.mem_map.1 hc
     have:=AS.cJ hI (hfr f hf).nd.ln
     omega
    obtain ⟨F',hle,hB,hP⟩:=hH.freeze (fun c hc=>by
     obtain ⟨z,hz,rfl⟩:=List.mem_map.1 hc
     exact aHT (by have:=hPl z hz;unfold gC;omega)) (by simp [aY];omega)
    have hsn:sP.n = (wk k t s).1.length:=by rw [hP.len];simp [aY]
    obtain ⟨tp,htp⟩:∃ tp:Nat,(wk k t s).2.root = (tp:Int):=by
     cases hw:(wk k t s).2 with
     | nil=>exact absurd hw hne2
     | node n i e l r=>exact ⟨n,rfl⟩
    refine ⟨(wk k t s).1.length + 1,?_⟩
    rw [htp,hsn,aQ (by omega)]
    refine up (wk k t s).1 [] (wk k t s).2 um sP F' M' β tp hle (by simp) rfl htp hP hB (fun M'' P h=>?_) (fun f hf=>(hfr f hf).lW hsm.lW (S:=fun _=>False) (fun _ _ h=>h)) (hum.lW hsm.lW (S:=fun _=>False) (fun _ _ h=>h)) (hper.nodup_iff.2 hn) ((aC3 k t s).2 tp htp) ?_ (hsm.lW.mono (fun _ h=>h) (by simp)) _ (by omega)
    ·obtain ⟨r,h1,h2⟩:=h
     exact ⟨r,h1,⟨h2.nd,fun x hx=>by obtain ⟨a1,a2,a3⟩:=h2.at_ x hx;exact ⟨a1,le_none hle a2,a3⟩,Mem.le_trans hle h2.fr⟩⟩
    ·have h1:=yA (wk k t s).2
     have h2:=kJ (wk k t s).2
     have h3:=hper.length_eq
     rw [List.length_append,List.length_append,kJ t,kJ s] at h3
     omega
   induction kd with
   | zero =>
    intro x y p ux uy sP M' β hkd hp hw hxy hx hy hH hsm kk hkk
    exfalso
    cases x with
    | node n i e l r=>simp only [bY,List.length_cons] at hkd;omega
    | nil =>
     cases y with
     | node n i e l r=>simp only [bY,List.length_cons] at hkd;omega
     | nil=>rcases hxy with h | h <;> exact h rfl
   | succ kd ih =>
    intro x y p ux uy sP M' β hkd hp hw hxy hx hy hH hsm kk hkk
    obtain ⟨kk,rfl⟩:∃ j,kk = j + 1:=⟨kk - 1,by omega⟩
    refine Eq.mpr (H.L2 ..) ?_
    unfold bE.L2.T aH
    cases x with
    | nil =>
     simp only [wk,List.append_nil] at hp hw
     simp only [root,cB,if_true]
     subst hp
     exact out nil y sP M' β (-1) y.root (by have:=aKk y;rw [←hw];split <;> omega) hH hsm
    | node n i e l r =>
     cases y with
     | nil =>
      simp only [wk,List.append_nil] at hp hw
      simp only [root,cB,if_true]
      rw [if_neg (by omega)]
      subst hp
      exact out (node n i e l r) nil sP M' β (n:Int) (-1) (by rw [←hw];simp only [root];rw [if_neg (by omega)]) hH hsm
     | node m j f b c =>
      simp only [root,cB]
      rw [if_neg (by omega),if_neg (by omega)]
      have hB:=hH.right
      refine wQ hB ?_
      simp only [go_sem]
      have hlp:sP.n = p.length:=by
       have:=hH.cells.2
       rw [this];simp [aY]
      have hlenw:=congrArg List.length hp
      rw [List.length_append,yO,yO] at hlenw
      have hst1:=uC k t s
      have hrkt:=yA t
      have hrks:=yA s
      (rw [cR,if_pos (by rw [hsm.n,hlp];omega)];refine Eq.mpr (H.J4 ..) ?_)
      unfold bE.J4.T aH
      obtain ⟨F',hB1,hle,back⟩:=hH.last
      refine rK hB1 (hsm.nd hy.1) (hsm.nd hx.1) fun M2 β2 hB2 hs2=>?_
      have hH2:=back M2 _ hB2
      have hsm2:AS.Sm (7 * (p.length:Int) + 6) α β2:=hsm.trans hs2
      rw [bU]
      have go:∀ (g:Fr) (x' y':LT) (u1 u2:Int),α.live g.n = true→α.get g.n 3 = x'.root→fG α u1 x'→fG α u2 y'→y'≠nil→(bY x').length + (bY y').length≤kd→p ++ g::(wk kd x' y').1 = (wk k t s).1→(wk kd x' y').2 = (wk k t s).2→bE.J5 aB kk (some ⟨a,0,none⟩) (g.n:Int) y'.root sP M2:=by
       intro g x' y' u1 u2 hgl hg3 hx' hy' hy0 hkd' hp' hw'
       refine Eq.mpr (H.J5 ..) ?_
       unfold bE.J5.T aH
       refine zD (K:=fun s35 M34=>(aJ PP w0).call _ _ _ M34) hH2 (by simp [aY];omega) fun M3 s3 hH3=>?_
       rw [show aY (p.map (·.n)) ++ [(g.n:Int)] = aY ((p ++ [g]).map (·.n)) from by simp [aY]] at hH3
       obtain ⟨F3,hB3,hle3,mA⟩:=hH3.last
       refine eZ hB3 fun M4 hB4=>?_
       have hc3:β2.fR (g.n:Int) 3 = x'.root:=by
        refine AS.kP hB3.inv (f:=3) (by rw [hsm2.live];exact hgl) (by omega) (by rw [hsm2.get];exact hg3) ?_
        rw [hsm2.live];exact hx'.aCC
       rw [hc3,aL]
       refine ih x' y' (p ++ [g]) u1 u2 s3 M4 β2.tick hkd' (by rw [←hp'];simp) hw' (.inr hy0) hx' hy' (mA M4 _ hB4) ((hsm2.trans AS.aO).mono (by simp;omega)) kk (by omega)
      simp only [bY,List.length_cons,List.length_append] at hkd
      by_cases hb:Bf (j,f) (i,e)
      ·rw [decide_eq_true hb,dZ]
       simp only [wk,if_pos hb] at hp hw
       exact go ⟨m,j,f,b⟩ c (node n i e l r) _ _ hy.1.ln hy.2.2.2.2.1 hy.2.2.2.2.2.2.2 hx (by simp) (by simp only [bY,List.length_cons,List.length_append];omega) hp hw
      ·rw [decide_eq_false hb,mE]
       simp only [wk,if_neg hb] at hp hw
       exact go ⟨n,i,e,l⟩ r (node m j f b c) _ _ hx.1.ln hx.2.2.2.2.1 hx.2.2.2.2.2.2.2 hy (by simp) (by simp only [bY,List.length_cons,List.length_append];omega) hp hw
  exact ⟨k + 1,down k t s [] ut us ⟨none,0,0⟩ M α hk rfl rfl hnn ht hs (aA.aFw hA) (AS.Sm.refl.mono (by simp)) (k + 1) (by omega)⟩
end
end HL
namespace HL
def bl (n:Nat):Nat:=if n = 0 then 0 else Nat.log2 n + 1
theorem aAk {n:Nat} (h:0 < n):2 ^ (bl n - 1)≤n∧n < 2 ^ bl n:=by
 unfold bl
 rw [if_neg (by omega),Nat.add_sub_cancel]
 exact ⟨Nat.log2_self_le (by omega),Nat.lt_log2_self⟩
theorem aLY {n k:Nat} (h1:2 ^ k≤n) (h2:n < 2 ^ (k + 1)):bl n = k + 1:=by
 have hp:0 < 2 ^ k:=Nat.pow_pos (by decide)
 have hn:0 < n:=by omega
 obtain ⟨h3,h4⟩:=aAk hn
 have hb:0 < bl n:=by unfold bl;rw [if_neg (by omega)];omega
 have h5:bl n - 1 < k + 1:=(Nat.pow_lt_pow_iff_right (by decide)).1 (Nat.lt_of_le_of_lt h3 h2)
 have h6:k < bl n:=(Nat.pow_lt_pow_iff_right (a:=2) (by decide)).1 (Nat.lt_of_le_of_lt h1 h4)
 omega
theorem aE8 {x k:Nat} (h:2 ^ k≤x):bl x = bl (x / 2 ^ k) + k:=by
 have hp:0 < 2 ^ k:=Nat.pow_pos (by decide)
 have hy:0 < x / 2 ^ k:=Nat.div_pos h hp
 obtain ⟨h1,h2⟩:=aAk hy
 have hb:0 < bl (x / 2 ^ k):=by unfold bl;rw [if_neg (by omega)];omega
 generalize hj:bl (x / 2 ^ k) = j at h1 h2 hb
 obtain ⟨j,rfl⟩:∃ i,j = i + 1:=⟨j - 1,by omega⟩
 rw [Nat.add_sub_cancel] at h1
 have e:j + 1 + k = j + k + 1:=by omega
 rw [e]
 refine aLY ?_ ?_
 ·rw [Nat.pow_add];exact (Nat.le_div_iff_mul_le hp).1 h1
 ·rw [←e,Nat.pow_add];exact (Nat.div_lt_iff_lt_mul hp).1 h2
theorem aCT {m n:Nat} (h:m≤n):bl m≤bl n:=by
 by_cases h0:m = 0
 ·subst h0;simp [bl]
 ·obtain ⟨h1,h2⟩:=aAk (show 0 < m by omega)
  obtain ⟨h3,h4⟩:=aAk (show 0 < n by omega)
  have:=(Nat.pow_lt_pow_iff_right (a:=2) (by decide)).1 (Nat.lt_of_le_of_lt h1 (Nat.lt_of_le_of_lt h h4))
  omega
theorem aFx {n k:Nat} (h:n < 2 ^ k):bl n≤k:=by
 by_cases h0:n = 0
 ·subst h0;simp [bl]
 ·obtain ⟨h1,h2⟩:=aAk (show 0 < n by omega)
  have:=(Nat.pow_lt_pow_iff_right (a:=2) (by decide)).1 (Nat.lt_of_le_of_lt h1 h)
  omega
def aE9 (a b:Int):Nat→Int
 | 0=>a
 | k + 1=>aE9 (kD a b) b k
theorem aBq {b:Int} (hb:0≤b):∀ (k:Nat) (a:Int),0≤a→a + b * k≤9223372036854775807→aE9 a b k = a + b * k
 | 0,a,_,_=>by simp [aE9]
 | k + 1,a,ha,h=>by
  have h1:b * ((k + 1:Nat):Int) = b * k + b:=by rw [Int.natCast_add,Int.mul_add];simp
  have h2:0≤b * (k:Int):=Int.mul_nonneg hb (by omega)
  have e:kD a b = a + b:=by unfold kD;rw [if_neg (by omega),if_neg (by omega)]
  rw [aE9,e,aBq hb k (a + b) (by omega) (by omega)]
  omega
theorem aCP {k n:Nat} (h:2 ^ k≤n):k + 1≤bl n:=by
 obtain ⟨h1,h2⟩:=aAk (show 0 < n from Nat.lt_of_lt_of_le (Nat.pow_pos (by decide)) h)
 have:=(Nat.pow_lt_pow_iff_right (a:=2) (by decide)).1 (Nat.lt_of_le_of_lt h h2)
 omega
def dO (n:Nat):Int:=500 + 400 * (bl n:Int)
theorem qC {m n:Nat} (h:m≤n):dO m≤dO n:=by
 have:=aCT h
 unfold dO;omega
end HL
namespace HL
namespace AS
structure lT (S L:Nat→Prop) (d k:Int) (α β:AS):Prop where
 n:β.n = α.n
 get:∀ c,¬ S c→∀ f,β.get c f = α.get c f
 live:∀ c,¬ L c→β.live c = α.live c
 len:(β.len:Int) = (α.len:Int) + d
 steps:0≤α.steps∧α.steps≤9223372036854775807→β.steps≤9223372036854775807∧α.steps≤β.steps∧β.steps≤α.steps + k
theorem n9.pZ {S L:Nat→Prop} {k:Int} {α β:AS} (h:n9 S k α β):lT S L 0 k α β :=
 ⟨h.n,h.get,fun c _=>by rw [h.live],by rw [aCw h.never h.live];omega,h.steps⟩
theorem Sm.pZ {S L:Nat→Prop} {k:Int} {α β:AS} (h:Sm k α β):lT S L 0 k α β:=n9.pZ h.lW
theorem lT.trans {S L:Nat→Prop} {d k d' k':Int} {α β γ:AS} (h:lT S L d k α β) (h2:lT S L d' k' β γ):lT S L (d + d') (k + k') α γ :=
 ⟨h2.n.trans h.n,fun c hc f=>(h2.get c hc f).trans (h.get c hc f),fun c hc=>(h2.live c hc).trans (h.live c hc),by have:=h.len;have:=h2.len;omega,fun h0=>by have h1:=h.steps h0;have h3:=h2.steps ⟨by omega,h1.1⟩;omega⟩
theorem lT.mono {S L S' L':Nat→Prop} {d k k':Int} {α β:AS} (h:lT S L d k α β) (hS:∀ c,S c→S' c) (hL:∀ c,L c→L' c) (hk:k≤k'):lT S' L' d k' α β :=
 ⟨h.n,fun c hc f=>h.get c (fun hs=>hc (hS c hs)) f,fun c hc=>h.live c (fun hs=>hc (hL c hs)),h.len,fun h0=>by have:=h.steps h0;omega⟩
theorem lT.to {S L:Nat→Prop} {d d' k:Int} {α β:AS} (h:lT S L d k α β) (e:d = d'):lT S L d' k α β:=e▸h
theorem xF {S L:Nat→Prop} {α:AS} (hi:α.Inv) {n:Nat} (h:α.next = some n) (hS:S n) (hL:L n):lT S L 1 0 α α.take:=by
 have h1:=(kL hi h).2.2
 have h2:=(aGM hi h).1
 refine ⟨by rw [h1];rfl,fun c hc f=>?_,fun c hc=>?_,by omega,fun h0=>?_⟩
 ·rw [h1]
  show (if c = n then fresh f else α.get c f) = _
  rw [if_neg (fun e:c = n=>hc (by rw [e];exact hS))]
 ·rw [h1]
  show (if c = n then true else α.live c) = _
  rw [if_neg (fun e:c = n=>hc (by rw [e];exact hL))]
 ·rw [h1]
  exact ⟨h0.2,Int.le_refl _,by show α.steps≤_;omega⟩
theorem yF {α:AS} (hi:α.Inv) {n:Nat} (h:α.next = some n):(∀ f,α.take.get n f = fresh f)∧α.take.live n = true:=by
 have h1:=(kL hi h).2.2
 refine ⟨fun f=>?_,?_⟩
 ·rw [h1]
  show (if n = n then fresh f else α.get n f) = _
  rw [if_pos rfl]
 ·rw [h1]
  show (if n = n then true else α.live n) = _
  rw [if_pos rfl]
theorem p5 {S L:Nat→Prop} {α:AS} (hi:α.Inv) {n:Nat} (h:α.live n = true) (hL:L n):lT S L (-1) 0 α (α.lI n) :=
 ⟨rfl,fun _ _ _=>rfl,fun c hc=>by
  show (if c = n then false else α.live c) = _
  rw [if_neg (fun e:c = n=>hc (by rw [e];exact hL))],by have:=aFi hi h;omega,fun h0=>⟨h0.2,Int.le_refl _,by show α.steps≤_;omega⟩⟩
theorem aDk {S L:Nat→Prop} {α:AS} {c f:Nat} {v:Int} (h:S c):lT S L 0 0 α (α.put c f v):=(aC4 h).pZ
theorem lT.put {S L:Nat→Prop} {d k:Int} {α β:AS} (h:lT S L d k α β) {c f:Nat} {v:Int} (hc:S c):lT S L d k α (β.put c f v) :=
 ((h.trans (aDk (L:=L) (f:=f) (v:=v) hc)).mono (fun _ h=>h) (fun _ h=>h) (by omega)).to (by omega)
end AS
end HL
namespace HL
section
variable {w0:World} {M F:Mem} {R:VP} {a:Nat} {α:AS}
open Go.Proofs.YtodobkbnmjgkdaaGreat.HL.LT
theorem y9 {t:LT} (h:Ln t) {m:Nat} (hm:(bY t).length + 1≤m):rk t + 1≤bl m:=aCP (Nat.le_trans (aC5 h) hm)
theorem uY {t:LT} (h:Ln t) {m:Nat} (hm:(bY t).length≤m):rk t≤bl m:=by
 have h1:=aC5 h
 cases hr:rk t with
 | zero=>omega
 | succ r =>
  rw [hr,Nat.pow_succ] at h1
  have h2:1≤2 ^ r:=Nat.one_le_two_pow
  exact aCP (Nat.le_trans (by omega:2 ^ r≤(bY t).length) hm)
theorem aG4 {γ:AS} {n i:Nat} {e:bR} {l r:LT} {up:Int} (h:fG γ up (node n i e l r)):γ.get n 0 = up:=h.2.1
theorem yZ:∀ {cs:List Cx} {x:Nat},x∈aAG cs→x∈fP cs
 | [],x,h=>by cases h
 | c::cs,x,h=>by
  simp only [aAG,fP,List.mem_cons,List.mem_append] at h ⊢
  rcases h with h | h | h
  ·exact .inl h
  ·exact .inr (.inr (.inl (m7 h)))
  ·exact .inr (.inr (.inr (yZ h)))
theorem aDO {aB:eA} (H:bO.Is (aJ PP w0) aB R) {N m:Nat} (hN:m≤N):∀ (cs:List Cx) (x:LT) (hk j:Nat) (M':Mem) (β:AS),aA w0 F M' (aF a β)→aAH β x.root hk cs→fG β (upc cs) x→Ln x→LnC hk cs→(fP cs ++ cells x).Nodup→j≤rk x→rk x < hk→((zN cs).length + (bY x).length + 1≤m)→β.n = N →
  (∀ M'' γ,aA w0 F M'' (aF a γ)→fG γ (-1) (rp cs x)→AS.n9 (fun c=>c∈aAG cs) (9 * (bl m + 1 - j)) β γ→R (.tuple #[]) M'')→∀ kk,cs.length < kk→bO.L2 aB kk (some ⟨a,0,none⟩) (upc cs) (j:Int) M'
 | [],x,hk,j,M',β,hA,hrc,hrx,hlx,hlc,fW,hj,hlt,hm,hn,hR,kk,hkk=>by
  obtain ⟨kk,rfl⟩:∃ i,kk = i + 1:=⟨kk - 1,by simp at hkk;omega⟩
  refine Eq.mpr (H.L2 ..) ?_
  unfold bO.L2.T aH
  simp only [upc,cB,if_true]
  have:=y9 hlx (m:=m) (by simp only [zN,List.length_nil] at hm;omega)
  exact hR M' β hA hrx (AS.n9.refl.mono (fun _ h=>h) (by omega))
 | c::cs,x,hk,j,M',β,hA,hrc,hrx,hlx,hlc,fW,hj,hlt,hm,hn,hR,kk,hkk=>by
  obtain ⟨kk,rfl⟩:∃ i,kk = i + 1:=⟨kk - 1,by simp at hkk;omega⟩
  refine Eq.mpr (H.L2 ..) ?_
  unfold bO.L2.T aH
  simp only [upc,cB]
  rw [if_neg (by omega)]
  obtain ⟨h1,h2,h3,h4,h5,h6,h7,h8⟩:=hrc
  obtain ⟨l1,l2,l3⟩:=hlc
  simp only [zN,List.length_cons,List.length_append] at hm
  have hI:=hA.inv
  have hI65:=hI.n
  have hrkx:=yA x
  refine wQ hA ?_
  simp only [go_sem,cR]
  rw [if_pos (by omega)]
  have hnd0:=fW
  simp only [fP,List.cons_append,List.nodup_cons,List.mem_cons,List.mem_append,not_or] at fW
  obtain ⟨⟨a1,⟨a2,a3⟩,a4⟩,⟨⟨b1,b2⟩,b3⟩,hn2⟩:=fW
  have hxb:=y9 hlx (m:=m) (by omega)
  have hob:=uY l2 (m:=m) (by omega)
  have hbm:bl m≤64:=aFx (by omega)
  have fin:∀ (M2:Mem) (γ:AS),aA w0 F M2 (aF a γ)→fG γ (upc cs) (c.fx x)→AS.n9 (· = c.n) 8 β γ→bs (β.get c.n 4 != ((LT.rk (c.fx x):Nat):Int)) (bO.J3 aB kk (some ⟨a,0,none⟩) (c.n:Int) (j:Int) M2) (R (.tuple #[]) M2):=by
   intro M2 γ hB hrep hc
   have hrkf:LT.rk (c.fx x) = min (LT.rk x) (LT.rk c.o) + 1:=Cx.aBb
   have hrk0:=aK4 l1
   have hrc':aAH γ c.n (c.rk hk) cs:=h8.lW hc (fun d hd e=>a3 (e▸hd))
   rw [h6,cB]
   split
   ·rename_i he
    have he':c.rk hk = LT.rk (c.fx x):=by omega
    refine hR M2 γ hB ?_ (hc.mono (fun d e=>e▸by simp [aAG]) (by omega))
    show fG γ (-1) (rp cs (c.fx x))
    rw [aGi (by rw [←he'];exact l3)]
    exact rR.2 ⟨by rw [Cx.vS,←he'];exact hrc',hrep⟩
   ·rename_i he
    have he':c.rk hk≠LT.rk (c.fx x):=fun e=>he (by rw [e])
    refine Eq.mpr (H.J3 ..) ?_
    unfold bO.J3.T aH
    have g0:γ.get c.n 0 = upc cs:=by
     have:=hrep
     have hroot:=Cx.vS c x
     cases hf:c.fx x with
     | nil=>exact absurd hf (by unfold Cx.fx;split <;> exact aMf _ _ _ _ _)
     | node n' i' e' l' r' =>
      rw [hf] at this hroot
      simp only [LT.root] at hroot
      have:n' = c.n:=by omega
      subst this
      exact aG4 (by rw [hf] at hrep;exact hrep)
    refine eZ hB fun M3 hB3=>?_
    rw [show γ.fR (c.n:Int) 0 = upc cs from AS.kP hB.inv (f:=0) (by rw [hc.live];exact h1.ln) (by omega) g0 (by
     cases cs with
     | nil=>exact .inl rfl
     | cons d ds=>exact .inr ⟨d.n,rfl,hrc'.1.ln⟩)]
    rw [aL,aQ (by omega)]
    have hprm:(fP cs ++ cells (c.fx x)).Nodup:=by
     have h9:(fP cs ++ cells (c.fx x)).Perm (fP (c::cs) ++ cells x):=((c.qH x).append_left _).trans (aCU _ _ _ _ _)
     exact h9.nodup_iff.2 hnd0
    refine aDO H hN cs (c.fx x) (c.rk hk) (j + 1) M3 γ.tick hB3 ?_ ?_ (Cx.aBQ l2 hlx) l3 hprm (by omega) (by omega) ?_ (hc.n.trans hn) ?_ kk (by simp at hkk;omega)
    ·rw [Cx.vS];exact hrc'.lW (S:=fun _=>False) AS.aO.lW (fun _ _ h=>h)
    ·exact hrep.lW (S:=fun _=>False) AS.aO.lW (fun _ _ h=>h)
    ·have:=(c.xC x).length_eq
     simp only [List.length_cons,List.length_append] at this
     omega
    ·intro M4 δ hB4 hr4 hc4
     refine hR M4 δ hB4 hr4 ((((hc.mono (T:=fun d=>d∈aAG (c::cs)) (fun d e=>e▸by simp [aAG]) (Int.le_refl _)).tick).trans (hc4.mono (fun d hd=>by simp [aAG,hd]) (Int.le_refl _))).mono (fun _ h=>h) (by omega))
  by_cases hl:c.l = true
  ·rw [if_pos hl] at h4 h5
   have hfx:c.fx x = LT.fx c.n c.i c.e x c.o:=by unfold Cx.fx;rw [if_pos hl]
   refine aAo hA h1 h3 h4 h5 hrx h7 a4 a2 (fun e=>a1 e.symm) (by omega) (by omega) fun M2 γ hB hrep hc=>?_
   rw [bU]
   rw [h2] at hrep
   rw [←hfx] at hrep ⊢
   exact fin M2 γ hB hrep hc
  ·have hl':c.l = false:=by simpa using hl
   rw [hl'] at h4 h5
   simp only [Bool.false_eq_true,if_false] at h4 h5
   have hfx:c.fx x = LT.fx c.n c.i c.e c.o x:=by unfold Cx.fx;rw [hl'];rfl
   refine aAo hA h1 h3 h5 h4 h7 hrx a2 a4 (fun e=>a1 e.symm) (by omega) (by omega) fun M2 γ hB hrep hc=>?_
   rw [bU]
   rw [h2] at hrep
   rw [←hfx] at hrep ⊢
   exact fin M2 γ hB hrep hc
theorem aAt (hA:aA w0 F M (aF a α)) {c:Cx} {cs:List Cx} {n i:Nat} {e:bR} {l r:LT} (hrep:fG α (-1) (iL (c::cs) (node n i e l r))) (fW:(cells (iL (c::cs) (node n i e l r))).Nodup) (hln:Ln (iL (c::cs) (node n i e l r))) {m:Nat} (hm:(bY (iL (c::cs) (node n i e l r))).length≤m)
  (h:∀ M' β,aA w0 F M' (aF a β)→fG β (-1) (rp (c::cs) nil)→fG β (-1) (node n i e l r)→AS.n9 (fun x=>x∈aAG (c::cs)∨x = n) (9 * bl m + 16) α β→R (.tuple #[]) M'):C PP w0 Id.bO #[.pointer (some ⟨a,0,none⟩),.int .i64 (n:Int)] R M:=by
 apply bO.go
 intro aB H
 unfold bO.T aH
 have hI:=hA.inv
 obtain ⟨hrc,hrt⟩:=rR.1 hrep
 obtain ⟨hlc,hlt⟩:=xR.1 hln
 have hperm:=jB (c::cs) (node n i e l r)
 have hnd':=hperm.nodup_iff.1 fW
 have hitl:=(aBa (c::cs) (node n i e l r)).length_eq
 have hclen:=m6 α.n _ fW fun x hx=>AS.cJ hI (hrep.live x hx)
 rw [kJ,hitl,List.length_append] at hclen
 rw [hitl,List.length_append] at hm
 have hbl:=aCT hm
 have hm2:(zN (c::cs)).length + 0 + 1≤(zN (c::cs)).length + (bY (node n i e l r)).length:=by simp only [bY,List.length_cons];omega
 obtain ⟨h1,h2,h3,h4,h5,h6,h7,h8⟩:=hrc
 obtain ⟨q1,q2,q3⟩:=List.nodup_append.1 hnd'
 have hcn:c.n≠n:=q3 c.n (by simp [fP]) n (by simp [cells])
 have hin:c.i≠n:=q3 c.i (by simp [fP]) n (by simp [cells])
 have hno:n ∉ cells c.o:=fun hc=>q3 n (by simp [fP,hc]) n (by simp [cells]) rfl
 have hnc:n ∉ fP cs:=fun hc=>q3 n (by simp [fP,hc]) n (by simp [cells]) rfl
 have hcc:c.n ∉ cells c.o∧c.n ∉ fP cs∧c.i≠c.n:=by
  simp only [fP,List.nodup_cons,List.mem_cons,List.mem_append,not_or] at q1
  exact ⟨q1.1.2.1,q1.1.2.2,fun e=>q1.1.1 e.symm⟩
 have hnln:α.live n = true:=hrt.1.ln
 have hup:α.get n 0 = (c.n:Int):=hrt.2.1
 have hor:c.o.root≠(n:Int):=fun e=>hno (iO e)
 have fin:∀ (M2:Mem) (β:AS),aA w0 F M2 (aF a β)→AS.Sm 4 (α.put c.n (if c.l then 2 else 3) (-1)) β→bO.J1 aB (some ⟨a,0,none⟩) (n:Int) (c.n:Int) M2:=by
  intro M2 β hB hs
  refine Eq.mpr (H.J1 ..) ?_
  unfold bO.J1.T aH
  refine iA hB fun M3 hB3=>?_
  rw [show β.mC (n:Int) 0 (-1) = β.put n 0 (-1) from AS.cU (f:=0) (by rw [hs.live];exact hnln) (by omega) _] at hB3
  simp only [go_sem]
  have hs3:AS.Sm 5 ((α.put c.n (if c.l then 2 else 3) (-1)).put n 0 (-1)) (β.put n 0 (-1)).tick:=((hs.put n 0 _).trans AS.aO).mono (by omega)
  have hc3:AS.n9 (fun x=>x = c.n∨x = n) 5 α (β.put n 0 (-1)).tick:=((((AS.n9.refl (S:=fun x=>x = c.n∨x = n) (α:=α)).put (.inl rfl)).put (.inr rfl)).trans hs3.lW).mono (fun _ h=>h) (by omega)
  generalize (β.put n 0 (-1)).tick = γ at hB3 hs3 hc3
  have g:∀ x f,γ.get x f = if x = n∧f = 0 then -1 else if x = c.n∧f = (if c.l then 2 else 3) then -1 else α.get x f:=fun x f=>by rw [hs3.get];rfl
  have gc:∀ f,f≠(if c.l then 2 else 3)→γ.get c.n f = α.get c.n f:=fun f hf=>by rw [g,if_neg (fun e:c.n = n∧f = 0=>hcn e.1),if_neg (fun e:c.n = c.n∧f = (if c.l then 2 else 3)=>hf e.2)]
  have gi:∀ f,γ.get c.i f = α.get c.i f:=fun f=>hc3.get c.i (by rintro (e | e);exact hcc.2.2 e;exact hin e) f
  have gl:∀ x,γ.live x = α.live x:=fun x=>by rw [hc3.live]
  have hf2:(if c.l then 2 else 3) = 2∨(if c.l then 2 else 3) = 3:=by cases c.l <;> simp
  have hdiff:(if c.l then 3 else 2)≠(if c.l then 2 else 3):=by cases c.l <;> simp
  have hrc3:aAH γ nil.root (LT.rk (node n i e l r)) (c::cs):=by
   refine ⟨⟨(gl _).trans h1.ln,(gl _).trans h1.li,(gc 6 (by omega)).trans h1.it,(gi 9).trans h1.nd,(gi 7).trans h1.k,(gi 8).trans h1.s⟩,(gc 0 (by omega)).trans h2,(gc 1 (by omega)).trans h3,?_,(gc _ hdiff).trans h5,(gc 4 (by omega)).trans h6,?_,?_⟩
   ·rw [g,if_neg (fun e:c.n = n∧_=>hcn e.1),if_pos ⟨rfl,rfl⟩];rfl
   ·exact h7.lW hc3 fun x hx=>by rintro (e | e);exact hcc.1 (e▸hx);exact hno (e▸hx)
   ·exact h8.lW hc3 fun x hx=>by rintro (e | e);exact hcc.2.1 (e▸hx);exact hnc (e▸hx)
  have hrt3:fG γ (-1) (node n i e l r):=by
   refine hrt.up q2 (fun y hy=>?_) (fun x hx f hf=>?_) (fun x _=>gl x)
   ·have:y = n:=by simp only [LT.root] at hy;omega
    rw [g,if_pos ⟨this,rfl⟩]
   ·rw [g,if_neg (fun e:x = n∧f = 0=>by rcases hf with hf | hf;exact hf (by simp only [LT.root];omega);exact hf e.2),if_neg (fun e:x = c.n∧_=>q3 c.n (by simp [fP]) x hx e.1.symm)]
  refine ⟨(c::cs).length + 1,aDO (m:=(zN (c::cs)).length + (bY (node n i e l r)).length) (N:=γ.n) H ?_ (c::cs) nil _ 0 M3 γ hB3 hrc3 trivial trivial hlc ?_ (Nat.zero_le _) (by simp [LT.rk]) (by simp [bY]) rfl (fun M4 δ hB4 hr4 hc4=>?_) _ (by omega)⟩
  ·rw [hc3.n];omega
  ·simpa [cells] using q1
  ·refine h M4 δ hB4 hr4 (hrt3.lW hc4 fun x hx hy=>?_) (((hc3.mono (fun x hx=>?_) (Int.le_refl _)).trans (hc4.mono (fun x hx=>.inl hx) (Int.le_refl _))).mono (fun _ h=>h) (by omega))
   ·exact q3 x (yZ hy) x hx rfl
   ·rcases hx with rfl | rfl
    ·exact .inl (by simp [aAG])
    ·exact .inr rfl
 refine eZ hA fun M1 hA1=>?_
 rw [show α.fR (n:Int) 0 = (c.n:Int) from AS.dI (f:=0) hnln (by omega) hup (AS.cJ hI h1.ln)]
 simp only [go_sem]
 refine eZ hA1 fun M2 hA2=>?_
 by_cases hl:c.l = true
 ·rw [if_pos hl] at h4 h5
  rw [show α.tick.fR (c.n:Int) 2 = (n:Int) from AS.dI (α:=α.tick) (f:=2) h1.ln (by omega) h4 (AS.cJ hI hnln)]
  simp only [go_sem,fJ,if_true]
  refine iA hA2 fun M3 hA3=>?_
  rw [show α.tick.tick.mC (c.n:Int) 2 (-1) = α.tick.tick.put c.n 2 (-1) from AS.cU (α:=α.tick.tick) (f:=2) h1.ln (by omega) _] at hA3
  simp only [go_sem]
  refine fin M3 _ hA3 ?_
  rw [if_pos hl]
  exact ((((AS.aO (α:=α)).trans AS.aO).put c.n 2 (-1)).trans AS.aO).mono (by omega)
 ·have hl':c.l = false:=by simpa using hl
  rw [hl'] at h4 h5
  simp only [Bool.false_eq_true,if_false] at h4 h5
  rw [show α.tick.fR (c.n:Int) 2 = c.o.root from AS.kP (α:=α.tick) (AS.qJ hI) (f:=2) h1.ln (by omega) h5 h7.aCC]
  simp only [go_sem,fJ]
  rw [if_neg hor]
  refine eZ hA2 fun M3 hA3=>?_
  rw [show α.tick.tick.fR (c.n:Int) 3 = (n:Int) from AS.dI (α:=α.tick.tick) (f:=3) h1.ln (by omega) h4 (AS.cJ hI hnln)]
  simp only [go_sem,if_true]
  refine iA hA3 fun M4 hA4=>?_
  rw [show α.tick.tick.tick.mC (c.n:Int) 3 (-1) = α.tick.tick.tick.put c.n 3 (-1) from AS.cU (α:=α.tick.tick.tick) (f:=3) h1.ln (by omega) _] at hA4
  simp only [go_sem]
  refine fin M4 _ hA4 ?_
  rw [hl']
  exact (((((AS.aO (α:=α)).trans AS.aO).trans AS.aO).put c.n 3 (-1)).trans AS.aO).mono (by omega)
end
end HL
namespace HL
structure Hp (α:AS) (r:Int) (t:LT):Prop where
 r:r = t.root
 rep:LT.fG α (-1) t
 nd:(LT.cells t).Nodup
 ln:LT.Ln t
 od:LT.Od t
def HpF (α:AS) (r:Int) (t:LT) (i:Nat) (e e':bR):Prop :=
 ∃ cs n l s,t = LT.iL cs (.node n i e l s)∧r = t.root∧LT.fG α (-1) (LT.iL cs (.node n i e' l s))∧(LT.cells t).Nodup∧LT.Ln t∧LT.OdC cs∧LT.Od (.node n i e' l s)
section
variable {w0:World} {M F:Mem} {R:VP} {a:Nat} {α:AS}
open Go.Proofs.YtodobkbnmjgkdaaGreat.HL.LT
theorem Hp.congr {β:AS} {r:Int} {t:LT} (h:Hp α r t) (hg:∀ c∈cells t,∀ f,β.get c f = α.get c f) (hl:∀ c∈cells t,β.live c = α.live c):Hp β r t:=⟨h.r,h.rep.congr hg hl,h.nd,h.ln,h.od⟩
theorem Hp.live {r:Int} {t:LT} (h:Hp α r t):∀ c∈cells t,α.live c = true:=h.rep.live
theorem Hp.nil:Hp α (-1) .nil:=⟨rfl,trivial,List.nodup_nil,trivial,trivial⟩
theorem aHB {n i:Nat} {e:bR} {l r:LT} (h:Od (node n i e l r)):∀ y∈bY l ++ bY r,Bf (i,e) y:=fun y hy=>by
 rcases List.mem_append.1 hy with hy | hy
 ·exact h.1 y hy
 ·exact h.2.1 y hy
theorem Hp.lower {r:Int} {t:LT} {i:Nat} {e e':bR} (h:Hp α r t) (hm:(i,e)∈bY t) (hle:e'.1≤e.1) (hs:e'.2 = e.2):HpF (α.put i 7 e'.1) r t i e e':=by
 obtain ⟨cs,n,l,s,rfl⟩:=find hm
 obtain ⟨h1,h2⟩:=rR.1 h.rep
 have fW:=(jB cs (node n i e l s)).nodup_iff.1 h.nd
 obtain ⟨q1,q2,q3⟩:=List.nodup_append.1 fW
 have q2':=q2
 simp only [cells,List.nodup_cons,List.mem_cons,List.mem_append,not_or] at q2'
 obtain ⟨⟨a1,a2,a3⟩,⟨b1,b2⟩,_⟩:=q2'
 have hc:AS.n9 (· = i) 0 α (α.put i 7 e'.1):=AS.aC4 rfl
 obtain ⟨h3,h4,h5⟩:=aCJ.1 h.od
 have hod:Od (node n i e' l s):=by
  obtain ⟨o1,o2,o3,o4⟩:=h4
  have key:∀ x:cH,Bf (i,e) x→Bf (i,e') x:=by
   intro x hx
   rcases hx with hx | ⟨hx,hx'⟩
   ·refine .inl ?_
    unfold Lt at hx ⊢
    simp only at hx ⊢
    omega
   ·by_cases h9:e'.1 = e.1
    ·have:e' = e:=Prod.ext h9 hs
     rw [this];exact .inr ⟨hx,hx'⟩
    ·refine .inl ?_
     have hx2:e = x.2:=hx
     unfold Lt
     rw [←hx2]
     simp only
     omega
  exact ⟨fun x hx=>key x (o1 x hx),fun x hx=>key x (o2 x hx),o3,o4⟩
 refine ⟨cs,n,l,s,rfl,h.r,rR.2 ⟨?_,?_⟩,h.nd,h.ln,h3,hod⟩
 ·exact (h1.lW hc fun x hx e=>q3 x hx i (by simp [cells]) e)
 ·obtain ⟨g1,g2,g3,g4,g5,g6,g7,g8⟩:=h2
  have gn:∀ f,(α.put i 7 e'.1).get n f = α.get n f:=fun f=>hc.get n (fun e=>a1 e) f
  refine ⟨⟨g1.ln,g1.li,(gn 6).trans g1.it,?_,?_,?_⟩,(gn 0).trans g2,(gn 1).trans g3,(gn 2).trans g4,(gn 3).trans g5,(gn 4).trans g6,g7.lW hc fun x hx e=>b1 (e▸hx),g8.lW hc fun x hx e=>b2 (e▸hx)⟩
  ·rw [AS.eQ,if_neg (by omega)];exact g1.nd
  ·rw [AS.eQ,if_pos ⟨rfl,rfl⟩]
  ·rw [AS.eQ,if_neg (by omega),hs];exact g1.s
theorem sD {m:Nat} {j:Int} (h:j≤100 * (bl m:Int) + 100):j≤dO m:=by
 unfold dO;omega
theorem aES (hA:aA w0 F M (aF a α)) {r:Int} {t:LT} (hp:Hp α r t) {i:Nat} {e:bR} (hi:α.live i = true) (hic:i ∉ cells t) (h7:α.get i 7 = e.1) (h8:α.get i 8 = e.2)
  (h0:α.next = none→∀ M' β,aA w0 F M' (aF a β)→AS.Sm 1 α β→R (.tuple #[.int .i64 r,.bool false]) M')
  (h1:∀ n,α.next = some n→α.live n = false→∀ M' β t',aA w0 F M' (aF a β)→Hp β t'.root t'→(bY t').Perm ((i,e)::bY t)→(cells t').Perm (n::i::cells t)→AS.lT (fun c=>c∈n::i::cells t) (· = n) 1 (dO ((bY t).length + 1)) α β→R (.tuple #[.int .i64 t'.root,.bool true]) M') :
  C PP w0 Id.pP #[.pointer (some ⟨a,0,none⟩),.int .i64 r,.int .i64 (i:Int)] R M:=by
 apply pP.go
 unfold pP.T aH
 have hI:=hA.inv
 simp only [go_sem,Option.isNone_some,mE]
 refine aA1 hA hi (fun hnx M1 β hB hs=>?_) fun n hnx M1 β hB hs=>?_
 ·simp only [go_sem,Bool.not_false,dZ]
  exact h0 hnx M1 β hB hs
 ·simp only [go_sem,Bool.not_true,mE]
  obtain ⟨hnn,hnl,hnt⟩:=AS.kL hI hnx
  have hnt2:n ∉ cells t:=fun hc=>by have:=hp.live n hc;rw [hnl] at this;cases this
  have hin:i≠n:=fun e=>by rw [e,hnl] at hi;cases hi
  obtain ⟨hfr,hfl⟩:=AS.yF hI hnx
  have hbl:β.live n = true:=by rw [hs.live];exact hfl
  refine iA hB fun M2 hB2=>?_
  rw [show β.mC (n:Int) 4 1 = β.put n 4 1 from AS.cU (f:=4) hbl (by omega) _] at hB2
  simp only [go_sem]
  have hs2:AS.Sm 4 (((α.take.put n 6 (i:Int)).put i 9 (n:Int)).put n 4 1) (β.put n 4 1).tick:=((hs.put n 4 1).trans AS.aO).mono (by omega)
  have he2:AS.lT (fun c=>c = n∨c = i) (· = n) 1 4 α (β.put n 4 1).tick:=(((((AS.xF (S:=fun c=>c = n∨c = i) (L:=(· = n)) hI hnx (.inl rfl) rfl).put (f:=6) (v:=(i:Int)) (c:=n) (.inl rfl)).put (f:=9) (v:=(n:Int)) (c:=i) (.inr rfl)).put (f:=4) (v:=1) (c:=n) (.inl rfl)).trans hs2.pZ).mono (fun _ h=>h) (fun _ h=>h) (by omega) |>.to (by omega)
  generalize (β.put n 4 1).tick = γ at hB2 hs2 he2
  have g:∀ x f,γ.get x f = if x = n∧f = 4 then 1 else if x = i∧f = 9 then (n:Int) else if x = n∧f = 6 then (i:Int) else α.take.get x f:=fun x f=>by rw [hs2.get];rfl
  have gtk:∀ x f,x≠n→α.take.get x f = α.get x f:=fun x f hx=>by
   rw [hnt]
   show (if x = n then AS.fresh f else α.get x f) = _
   rw [if_neg hx]
  have gl:∀ x,γ.live x = if x = n then true else α.live x:=fun x=>by rw [hs2.live,show (((α.take.put n 6 (i:Int)).put i 9 (n:Int)).put n 4 1).live = α.take.live from rfl,hnt];rfl
  have hrt:fG γ (-1) t:=hp.rep.congr (fun c hc f=>he2.get c (by rintro (h | h);exact hnt2 (h▸hc);exact hic (h▸hc)) f) (fun c hc=>he2.live c (fun e=>hnt2 (e▸hc)))
  have gn:∀ f,f≠4→f≠6→γ.get n f = AS.fresh f:=fun f h4 h6=>by rw [g,if_neg (fun e:n = n∧f = 4=>h4 e.2),if_neg (fun e:n = i∧f = 9=>hin e.1.symm),if_neg (fun e:n = n∧f = 6=>h6 e.2),hfr]
  have gi:∀ f,f≠9→γ.get i f = α.get i f:=fun f h9=>by rw [g,if_neg (fun e:i = n∧f = 4=>hin e.1),if_neg (fun e:i = i∧f = 9=>h9 e.2),if_neg (fun e:i = n∧f = 6=>hin e.1),gtk _ _ hin]
  have hrs:fG γ (-1) (node n i e .nil .nil):=by
   refine ⟨⟨by rw [gl,if_pos rfl],by rw [gl,if_neg hin];exact hi,?_,?_,(gi 7 (by omega)).trans h7,(gi 8 (by omega)).trans h8⟩,gn 0 (by omega) (by omega),gn 1 (by omega) (by omega),gn 2 (by omega) (by omega),gn 3 (by omega) (by omega),?_,trivial,trivial⟩
   ·rw [g,if_neg (by omega),if_neg (by omega),if_pos ⟨rfl,rfl⟩]
   ·rw [g,if_neg (by omega),if_pos ⟨rfl,rfl⟩]
   ·rw [g,if_pos ⟨rfl,rfl⟩];rfl
  have hcc:(cells t ++ cells (node n i e .nil .nil)).Nodup:=by
   rw [List.nodup_append]
   refine ⟨hp.nd,by simp only [cells,List.append_nil,List.nodup_cons,List.mem_cons,List.not_mem_nil,or_false,not_false_eq_true,List.nodup_nil,and_true];exact fun e=>hin e.symm,fun x hx y hy e=>?_⟩
   simp only [cells,List.append_nil,List.mem_cons,List.not_mem_nil,or_false] at hy
   rcases hy with rfl | rfl
   ·exact hnt2 (e▸hx)
   ·exact hic (e▸hx)
  rw [hp.r]
  have hk:(bY t).length + (bY (node n i e .nil .nil)).length≤(bY t).length + 1:=by simp [bY]
  refine rL (t:=t) (s:=node n i e .nil .nil) hB2 hrt hrs hcc hk fun M3 δ hB3 hr3 hc3=>?_
  simp only [go_sem]
  have hits:=oN _ _ _ hk
  have hcel:=oA _ _ _ hk
  have hbb:=y9 hp.ln (m:=(bY t).length + 1) (Nat.le_refl _)
  refine h1 n hnx hnl M3 δ _ hB3 ⟨rfl,hr3,hcel.nodup_iff.2 hcc,u7 _ _ _ hp.ln (by simp [Ln]),vM _ _ _ hk hp.od (by simp [Od,bY]) fun x hx y hy e=>?_⟩ (hits.trans (by simp only [bY,List.append_nil];exact List.perm_append_comm)) (hcel.trans (by simp only [cells,List.append_nil];exact List.perm_append_comm)) ?_
  ·simp only [bY,List.append_nil,List.mem_cons,List.not_mem_nil,or_false] at hy
   subst hy
   exact hic (by have h9:=oR hx;rw [e] at h9;exact h9)
  ·refine ((he2.mono (S':=fun c=>c∈n::i::cells t) (L':=(· = n)) (fun c hc=>by rcases hc with rfl | rfl <;> simp) (fun _ h=>h) (Int.le_refl _)).trans ((hc3.mono (T:=fun c=>c∈n::i::cells t) (fun c hc=>?_) (Int.le_refl _)).pZ)).mono (fun _ h=>h) (fun _ h=>h) (sD ?_) |>.to (by omega)
   ·rcases hc with hc | hc
    ·simp [m7 hc]
    ·simp only [aP,List.append_nil,List.mem_cons,List.not_mem_nil,or_false] at hc
     simp [hc]
   ·have e1:rk (node n i e LT.nil LT.nil) = 1:=rfl
    rw [e1];omega
theorem aAf (hA:aA w0 F M (aF a α)) {n i:Nat} {e:bR} {l s:LT} (hr:fG α (-1) (node n i e l s)) (fW:(cells (node n i e l s)).Nodup) (hln:Ln (node n i e l s)) (hod:Od (node n i e l s)) {m:Nat} (hm:(bY (node n i e l s)).length≤m)
  (h:∀ M' β t',aA w0 F M' (aF a β)→Hp β t'.root t'→(bY t').Perm (bY l ++ bY s)→(cells t').Perm (cells l ++ cells s)→AS.lT (fun c=>c∈cells (node n i e l s)) (· = n) (-1) (34 * bl m + 10) α β→β.get i 9 = -1∧β.get i 7 = e.1∧β.get i 8 = e.2→R (.tuple #[.int .i64 t'.root,.int .i64 (i:Int)]) M') :
  C PP w0 Id.iM #[.pointer (some ⟨a,0,none⟩),.int .i64 (n:Int)] R M:=by
 apply iM.go
 intro aB H
 unfold iM.T aH
 have hI:=hA.inv
 simp only [go_sem,Option.isNone_some,mE]
 refine xT hA ?_
 rw [AS.uQ,hr.1.ln]
 simp only [go_sem,Bool.not_true,mE]
 refine Eq.mpr (H.J1 ..) ?_
 unfold iM.J1.T aH
 obtain ⟨g1,g2,g3,g4,g5,g6,g7,g8⟩:=hr
 have hnd0:=fW
 simp only [cells,List.nodup_cons,List.mem_cons,List.mem_append,not_or] at fW
 obtain ⟨⟨a1,a2,a3⟩,⟨b1,b2⟩,hn2⟩:=fW
 have hk:(bY l).length + (bY s).length≤(bY l).length + (bY s).length:=Nat.le_refl _
 have hml:(bY l).length≤m∧(bY s).length≤m:=by simp only [bY,List.length_cons,List.length_append] at hm;omega
 have hbl:=uY hln.2.1 hml.1
 have hbs:=uY hln.2.2 hml.2
 have kids:∀ (K:VP),(∀ M' β,aA w0 F M' (aF a β)→fG β (-1) (mG ((bY l).length + (bY s).length) l s)→AS.n9 (fun c=>c∈aP l∨c∈aP s) (34 * bl m + 3) α β→K (.int .i64 (mG ((bY l).length + (bY s).length) l s).root) M')→C PP w0 Id.pG #[.pointer (some ⟨a,0,none⟩),.int .i64 (n:Int)] K M:=by
  intro K hK
  apply pG.go
  unfold pG.T aH
  refine eZ hA fun M1 hA1=>?_
  rw [show α.fR (n:Int) 2 = l.root from AS.kP hI (f:=2) g1.ln (by omega) g4 g7.aCC]
  simp only [go_sem]
  refine eZ hA1 fun M2 hA2=>?_
  rw [show α.tick.fR (n:Int) 3 = s.root from AS.kP (α:=α.tick) (AS.qJ hI) (f:=3) g1.ln (by omega) g5 g8.aCC]
  simp only [go_sem]
  have s2:AS.Sm 2 α α.tick.tick:=(AS.aO.trans AS.aO).mono (by omega)
  refine rL (t:=l) (s:=s) hA2 (g7.lW (S:=fun _=>False) s2.lW fun _ _ h=>h) (g8.lW (S:=fun _=>False) s2.lW fun _ _ h=>h) hn2 hk fun M3 β hB hrep hc=>?_
  simp only [go_sem]
  exact hK M3 β hB hrep ((s2.lW.trans hc).mono (fun _ h=>h) (by omega))
 refine kids _ fun M1 β hB hrep hc=>?_
 simp only [go_sem]
 have hits:=oN _ l s hk
 have hcel:=oA _ l s hk
 have hln':=u7 ((bY l).length + (bY s).length) l s hln.2.1 hln.2.2
 have hod':=vM _ l s hk hod.2.2.1 hod.2.2.2 fun x hx y hy e=>(List.nodup_append.1 hn2).2.2 _ (oR hx) _ (oR hy) e
 have hndm:(cells (mG ((bY l).length + (bY s).length) l s)).Nodup:=hcel.nodup_iff.2 hn2
 generalize mG ((bY l).length + (bY s).length) l s = t1 at hrep hits hcel hln' hod' hndm ⊢
 have hmem:∀ c,c∈cells t1→c∈cells l∨c∈cells s:=fun c hc=>List.mem_append.1 (hcel.mem_iff.1 hc)
 have hset:∃ γ,(β.mC t1.root 0 (-1)).tick = γ∧fG γ (-1) t1∧AS.n9 (fun c=>c∈cells l∨c∈cells s) 1 β γ:=by
  refine ⟨_,rfl,?_,?_⟩
  ·cases ht:t1 with
   | nil=>trivial
   | node n' i' e' l' s' =>
    rw [ht] at hrep hndm
    rw [show (LT.node n' i' e' l' s').root = (n':Int) from rfl,show β.mC (n':Int) 0 (-1) = β.put n' 0 (-1) from AS.cU (f:=0) hrep.1.ln (by omega) _]
    refine (hrep.up (β:=β.put n' 0 (-1)) hndm (fun x hx=>?_) (fun x hx f hf=>?_) (fun x _=>rfl)).lW (S:=fun _=>False) AS.aO.lW (fun _ _ h=>h)
    ·have:x = n':=by simp only [LT.root] at hx;omega
     rw [AS.eQ,if_pos ⟨this,rfl⟩]
    ·rw [AS.eQ,if_neg (fun e:x = n'∧f = 0=>by rcases hf with hf | hf;exact hf (by simp only [LT.root];omega);exact hf e.2)]
  ·cases ht:t1 with
   | nil =>
    rw [show LT.nil.root = -1 from rfl,AS.aGo AS.xP]
    exact AS.aO.lW
   | node n' i' e' l' s' =>
    rw [ht] at hrep hmem
    rw [show (LT.node n' i' e' l' s').root = (n':Int) from rfl,show β.mC (n':Int) 0 (-1) = β.put n' 0 (-1) from AS.cU (f:=0) hrep.1.ln (by omega) _]
    exact (((AS.n9.refl (S:=fun c=>c∈cells l∨c∈cells s) (α:=β)).put (hmem n' (by simp [cells]))).tick).mono (fun _ h=>h) (by omega)
 obtain ⟨γ,hγ,hrγ,hcγ⟩:=hset
 refine iA hB fun M2 hB2=>?_
 rw [hγ] at hB2
 simp only [go_sem]
 have hc2:AS.n9 (fun c=>c∈cells l∨c∈cells s) (34 * bl m + 4) α γ:=((hc.mono (fun c h=>by rcases h with h | h;exact .inl (m7 h);exact .inr (m7 h)) (Int.le_refl _)).trans hcγ).mono (fun _ h=>h) (by omega)
 have hnn:¬ (n∈cells l∨n∈cells s):=by rintro (h | h);exact a2 h;exact a3 h
 have hii:¬ (i∈cells l∨i∈cells s):=by rintro (h | h);exact b1 h;exact b2 h
 have hNd:γ.Nd n i e:=g1.congr (hc2.get n hnn) (hc2.get i hii) (by rw [hc2.live]) (by rw [hc2.live])
 refine aFh hB2 hNd fun M3 δ hB3 hs3=>?_
 simp only [go_sem]
 have hin:i≠n:=fun e=>a1 e.symm
 have hIγ:=hB2.inv
 have he3:AS.lT (fun c=>c∈cells (node n i e l s)) (· = n) (-1) 3 γ δ:=((((AS.aDk (S:=fun c=>c∈cells (node n i e l s)) (L:=(· = n)) (α:=γ) (c:=i) (f:=9) (v := -1) (by simp [cells])).trans (AS.p5 (AS.aDe hIγ i 9 (-1)) hNd.ln rfl)).trans hs3.pZ).mono (fun _ h=>h) (fun _ h=>h) (by omega)).to (by omega)
 refine h M3 δ t1 hB3 ⟨rfl,hrγ.congr (fun c hc f=>?_) (fun c hc=>?_),hndm,hln',hod'⟩ hits hcel (((hc2.mono (T:=fun c=>c∈cells (node n i e l s)) (fun c h=>by rcases h with h | h <;> simp [cells,h]) (Int.le_refl _)).pZ.trans he3).mono (fun _ h=>h) (fun _ h=>h) (by omega) |>.to (by omega)) ⟨?_,?_,?_⟩
 ·have:c≠i:=fun e=>hii (e▸hmem c hc)
  rw [hs3.get]
  show (if c = i∧f = 9 then (-1:Int) else γ.get c f) = _
  rw [if_neg (fun e=>this e.1)]
 ·have:c≠n:=fun e=>hnn (e▸hmem c hc)
  rw [hs3.live]
  show (if c = n then false else γ.live c) = _
  rw [if_neg this]
 ·rw [hs3.get]
  show (if i = i∧9 = 9 then (-1:Int) else γ.get i 9) = _
  rw [if_pos ⟨rfl,rfl⟩]
 ·rw [hs3.get]
  show (if i = i∧7 = 9 then (-1:Int) else γ.get i 7) = _
  rw [if_neg (by omega)];exact hNd.k
 ·rw [hs3.get]
  show (if i = i∧8 = 9 then (-1:Int) else γ.get i 8) = _
  rw [if_neg (by omega)];exact hNd.s
theorem aHm (hA:aA w0 F M (aF a α)) {r:Int} {t:LT} (hp:Hp α r t)
  (h0:t = .nil→R (.tuple #[.int .i64 (-1),.int .i64 (-1)]) M)
  (h:∀ x L,(bY t).Perm (x::L)→(∀ y∈L,Bf x y)→∀ M' β t' n,n∈aP t→aA w0 F M' (aF a β)→Hp β t'.root t'→(bY t').Perm L→(∀ c∈cells t',c∈cells t)→x.1 ∉ cells t'→AS.lT (fun c=>c∈cells t) (· = n) (-1) (dO ((bY t).length)) α β→β.get x.1 9 = -1∧β.get x.1 7 = x.2.1∧β.get x.1 8 = x.2.2∧β.live x.1 = true→R (.tuple #[.int .i64 t'.root,.int .i64 (x.1:Int)]) M') :
  C PP w0 Id.iM #[.pointer (some ⟨a,0,none⟩),.int .i64 r] R M:=by
 rw [hp.r]
 cases t with
 | nil =>
  apply iM.go
  intro aB H
  unfold iM.T aH
  simp only [go_sem,Option.isNone_some,mE,LT.root]
  refine xT hA ?_
  rw [AS.xP]
  simp only [go_sem,Bool.not_false,dZ]
  exact h0 rfl
 | node n i e l s =>
  have fW:=hp.nd
  simp only [cells,List.nodup_cons,List.mem_cons,List.mem_append,not_or] at fW
  refine aAf hA hp.rep hp.nd hp.ln hp.od (Nat.le_refl _) fun M1 β t' hB hp' hi hc he hg=>?_
  have hin:i≠n:=fun e=>fW.1.1 e.symm
  refine h (i,e) (bY l ++ bY s) (List.Perm.refl _) (aHB hp.od) M1 β t' n (by simp [aP]) hB hp' hi (fun c hm=>?_) (fun hm=>?_) (he.mono (fun _ h=>h) (fun _ h=>h) (sD (by omega))) ⟨hg.1,hg.2.1,hg.2.2,?_⟩
  ·have:=List.mem_append.1 (hc.mem_iff.1 hm)
   simp [cells,this]
  ·have:=List.mem_append.1 (hc.mem_iff.1 hm)
   rcases this with h | h
   ·exact fW.2.1.1 h
   ·exact fW.2.1.2 h
  ·rw [he.live i hin];exact hp.rep.1.li
theorem aAj:∀ (c:Cx) (cs:List Cx) (x:LT),∃ d:Nat,d∈fP (c::cs)∧(iL (c::cs) x).root = (d:Int)
 | c,[],x=>⟨c.n,by simp [fP],Cx.aAY c x⟩
 | c,d::ds,x=>by
  obtain ⟨m,h1,h2⟩:=aAj d ds (c.put x)
  exact ⟨m,by simp only [fP,List.mem_cons,List.mem_append] at h1 ⊢;exact .inr (.inr (.inr h1)),h2⟩
theorem uP (cs:List Cx) (n i:Nat) (e:bR) (l s:LT):(bY (iL cs (node n i e l s))).Perm ((i,e)::(zN cs ++ (bY l ++ bY s))):=(aBa _ _).trans List.perm_middle
theorem aFc (cs:List Cx) (n i:Nat) (e e':bR) (l s:LT):(cells (iL cs (node n i e l s))).Perm (cells (iL cs (node n i e' l s))):=(jB cs (node n i e l s)).trans (jB cs (node n i e' l s)).symm
theorem aEz (hA:aA w0 F M (aF a α)) {r:Int} {t:LT} {i:Nat} {e e':bR} (hF:HpF α r t i e e')
  (h:∀ M' β t',aA w0 F M' (aF a β)→Hp β t'.root t'→(∀ L,(bY t).Perm ((i,e)::L)→(bY t').Perm ((i,e')::L))→(cells t').Perm (cells t)→AS.lT (fun c=>c∈cells t) (fun _=>False) 0 (dO ((bY t).length)) α β→R (.int .i64 t'.root) M') :
  C PP w0 Id.gY #[.pointer (some ⟨a,0,none⟩),.int .i64 r,.int .i64 (i:Int)] R M:=by
 obtain ⟨cs,n,l,s,rfl,hr,hrep,fW,hln,hoc,hod⟩:=hF
 apply gY.go
 intro aB H
 unfold gY.T aH
 have hI:=hA.inv
 simp only [go_sem,Option.isNone_some,mE]
 obtain ⟨hrc,hrt⟩:=rR.1 hrep
 have hcl:=aFc cs n i e e' l s
 have hnd':=hcl.nodup_iff.1 fW
 have hln':Ln (iL cs (node n i e' l s)):=by
  obtain ⟨g1,g2⟩:=xR.1 hln
  exact xR.2 ⟨g1,g2⟩
 have hperm:∀ t',(bY t').Perm ((i,e')::(zN cs ++ (bY l ++ bY s)))→∀ L,(bY (iL cs (node n i e l s))).Perm ((i,e)::L)→(bY t').Perm ((i,e')::L):=fun t' ht L hL =>
  ht.trans (List.Perm.cons _ (List.Perm.cons_inv ((uP cs n i e l s).symm.trans hL)))
 refine zG hA fun M1 hA1=>?_
 rw [show α.fR (i:Int) 9 = (n:Int) from AS.dI (f:=9) hrt.1.li (by omega) hrt.1.nd (AS.cJ hI hrt.1.ln)]
 simp only [go_sem,fJ]
 rw [if_neg (by omega)]
 cases cs with
 | nil =>
  have hr':r = (n:Int):=hr
  rw [if_pos hr'.symm]
  refine (hr'▸h M1 α.tick (node n i e' l s) hA1 ⟨rfl,hrep.lW (S:=fun _=>False) AS.aO.lW (fun _ _ h=>h),hnd',hln',hod⟩ (hperm _ (List.Perm.refl _)) hcl.symm (AS.aO.pZ.mono (fun _ h=>h) (fun _ h=>h) (sD (by omega))))
 | cons c cs =>
  obtain ⟨d,hd1,hd2⟩:=aAj c cs (node n i e l s)
  obtain ⟨q1,q2,q3⟩:=List.nodup_append.1 ((jB (c::cs) (node n i e l s)).nodup_iff.1 fW)
  have hdn:d≠n:=q3 d hd1 n (by simp [cells])
  rw [if_neg (fun e=>hdn (by rw [hr,hd2] at e;omega))]
  refine eZ hA1 fun M2 hA2=>?_
  have hc1:=hrc.1
  rw [show α.tick.fR (n:Int) 0 = (c.n:Int) from AS.dI (α:=α.tick) (f:=0) hrt.1.ln (by omega) hrt.2.1 (AS.cJ hI hc1.ln)]
  simp only [go_sem]
  (rw [if_neg (by omega)];refine Eq.mpr (H.J1 ..) ?_)
  unfold gY.J1.T aH
  have s2:AS.Sm 2 α α.tick.tick:=(AS.aO.trans AS.aO).mono (by omega)
  have hlen:(bY (iL (c::cs) (node n i e' l s))).length = (bY (iL (c::cs) (node n i e l s))).length:=by
   rw [(uP _ _ _ _ _ _).length_eq,(uP _ _ _ _ _ _).length_eq];rfl
  refine aAt hA2 (hrep.lW (S:=fun _=>False) s2.lW (fun _ _ h=>h)) hnd' hln' (m:=(bY (iL (c::cs) (node n i e l s))).length) (by omega) fun M3 β hB hr1 hr2 hcb=>?_
  have hroot:(rp (c::cs) nil).root = r:=by rw [aCQ (c::cs) nil (node n i e l s) (by simp),hr]
  obtain ⟨hl1,hl2⟩:=xR.1 hln'
  have hrpln:Ln (rp (c::cs) nil):=aIO hl1.o trivial
  have hrpod:Od (rp (c::cs) nil):=aIm hoc trivial (fun x hx=>by cases hx)
  have hrpi:=aFf (c::cs) nil
  have hrpc:=aBn (c::cs) nil
  rw [show bY nil = [] from rfl,List.append_nil] at hrpi
  rw [show cells nil = [] from rfl,List.append_nil] at hrpc
  have hrpn:∀ x,x∈aP (rp (c::cs) nil)→x∈fP (c::cs):=fun x hx=>hrpc.mem_iff.1 (m7 hx)
  have hcc:(cells (rp (c::cs) nil) ++ cells (node n i e' l s)).Nodup:=by
   refine (hrpc.append_right _).nodup_iff.2 ?_
   exact (jB (c::cs) (node n i e' l s)).nodup_iff.1 hnd'
  have htl:=(uP (c::cs) n i e l s).length_eq
  simp only [List.length_cons,List.length_append] at htl
  have hk:(bY (rp (c::cs) nil)).length + (bY (node n i e' l s)).length≤(bY (iL (c::cs) (node n i e l s))).length:=by
   rw [hrpi.length_eq,htl];simp only [bY,List.length_cons,List.length_append];omega
  have hk1:=uY hrpln (m:=(bY (iL (c::cs) (node n i e l s))).length) (by omega)
  have hk2:=uY hl2 (m:=(bY (iL (c::cs) (node n i e l s))).length) (by omega)
  rw [←hroot]
  refine rL (t:=rp (c::cs) nil) (s:=node n i e' l s) hB hr1 hr2 hcc hk fun M4 γ hB4 hr4 hc4=>?_
  simp only [go_sem]
  have hits:=oN _ _ _ hk
  have hcel:=oA _ _ _ hk
  have hc:∀ x,x∈fP (c::cs)∨x∈cells (node n i e l s)→x∈cells (iL (c::cs) (node n i e l s)):=fun x hx=>(jB (c::cs) (node n i e l s)).mem_iff.2 (List.mem_append.2 hx)
  refine h M4 γ _ hB4 ⟨rfl,hr4,hcel.nodup_iff.2 hcc,u7 _ _ _ hrpln hl2,vM _ _ _ hk hrpod hod fun x hx y hy e0=>?_⟩ (hperm _ ?_) ?_ ?_
  ·exact (List.nodup_append.1 hcc).2.2 _ (oR hx) _ (oR hy) e0
  ·exact (hits.trans (hrpi.append_right _)).trans List.perm_middle
  ·exact hcel.trans ((hrpc.append_right _).trans (jB (c::cs) (node n i e l s)).symm)
  ·refine (((s2.lW.trans (hcb.mono (T:=fun x=>x∈cells (iL (c::cs) (node n i e l s))) (fun x hx=>hc x ?_) (Int.le_refl _))).trans (hc4.mono (fun x hx=>hc x ?_) (Int.le_refl _))).pZ).mono (fun _ h=>h) (fun _ h=>h) (sD ?_)
   ·rcases hx with hx | rfl
    ·exact .inl (yZ hx)
    ·exact .inr (by simp [cells])
   ·rcases hx with hx | hx
    ·exact .inl (hrpn x hx)
    ·exact .inr (m7 hx)
   ·omega
theorem aHj (hA:aA w0 F M (aF a α)) {r:Int} {t:LT} (hp:Hp α r t) {i:Nat} {e:bR} (hm:(i,e)∈bY t)
  (h:∀ L,(bY t).Perm ((i,e)::L)→∀ M' β t' n,n∈aP t→aA w0 F M' (aF a β)→Hp β t'.root t'→(bY t').Perm L→(∀ c∈cells t',c∈cells t)→i ∉ cells t'→n ∉ cells t'→AS.lT (fun c=>c∈cells t) (· = n) (-1) (dO ((bY t).length)) α β→β.get i 9 = -1∧β.live i = true→R (.int .i64 t'.root) M') :
  C PP w0 Id.jX #[.pointer (some ⟨a,0,none⟩),.int .i64 r,.int .i64 (i:Int)] R M:=by
 obtain ⟨cs,n,l,s,rfl⟩:=find hm
 apply jX.go
 intro aB H
 unfold jX.T aH
 have hI:=hA.inv
 have hr:=hp.r
 simp only [go_sem,Option.isNone_some,mE]
 obtain ⟨hrc,hrt⟩:=rR.1 hp.rep
 obtain ⟨hl1,hl2⟩:=xR.1 hp.ln
 obtain ⟨ho1,ho2,ho3⟩:=aCJ.1 hp.od
 obtain ⟨q1,q2,q3⟩:=List.nodup_append.1 ((jB cs (node n i e l s)).nodup_iff.1 hp.nd)
 have htl:=(uP cs n i e l s).length_eq
 simp only [List.length_cons,List.length_append] at htl
 have hml:(bY (node n i e l s)).length≤(bY (iL cs (node n i e l s))).length:=by
  rw [htl];simp only [bY,List.length_cons,List.length_append];omega
 have hc:∀ x,x∈fP cs∨x∈cells (node n i e l s)→x∈cells (iL cs (node n i e l s)):=fun x hx=>(jB cs (node n i e l s)).mem_iff.2 (List.mem_append.2 hx)
 have hnn:n∈aP (iL cs (node n i e l s)):=(aDD cs (node n i e l s)).mem_iff.2 (by simp [aP])
 have q2':=q2
 simp only [cells,List.nodup_cons,List.mem_cons,List.mem_append,not_or] at q2'
 obtain ⟨⟨a1,a2,a3⟩,⟨b1,b2⟩,_⟩:=q2'
 refine zG hA fun M1 hA1=>?_
 rw [show α.fR (i:Int) 9 = (n:Int) from AS.dI (f:=9) hrt.1.li (by omega) hrt.1.nd (AS.cJ hI hrt.1.ln)]
 simp only [go_sem,fJ]
 rw [if_neg (by omega)]
 cases cs with
 | nil =>
  have hr':r = (n:Int):=hr
  rw [if_pos hr'.symm]
  refine aAf hA1 ((show fG α (-1) (node n i e l s) from hp.rep).lW (S:=fun _=>False) AS.aO.lW (fun _ _ h=>h)) q2 hl2 ho2 hml fun M2 β t' hB hp' hi hcel he hg=>?_
  simp only [go_sem]
  have hmem:∀ c,c∈cells t'→c∈cells l∨c∈cells s:=fun c hc=>List.mem_append.1 (hcel.mem_iff.1 hc)
  refine h (bY l ++ bY s) (List.Perm.refl _) M2 β t' n hnn hB hp' hi (fun c hx=>?_) (fun hx=>?_) (fun hx=>?_) ((AS.aO.pZ.trans he).mono (fun _ h=>h) (fun _ h=>h) (sD ?_) |>.to (by omega)) ⟨hg.1,?_⟩
  ·have:=hmem c hx
   exact hc c (.inr (by simp [cells,this]))
  ·rcases hmem i hx with h | h
   ·exact b1 h
   ·exact b2 h
  ·rcases hmem n hx with h | h
   ·exact a2 h
   ·exact a3 h
  ·omega
  ·rw [he.live i (fun e=>a1 e.symm)];exact hrt.1.li
 | cons c cs =>
  obtain ⟨d,hd1,hd2⟩:=aAj c cs (node n i e l s)
  have hdn:d≠n:=q3 d hd1 n (by simp [cells])
  rw [if_neg (fun e=>hdn (by rw [hr,hd2] at e;omega))]
  refine eZ hA1 fun M2 hA2=>?_
  have hc1:=hrc.1
  rw [show α.tick.fR (n:Int) 0 = (c.n:Int) from AS.dI (α:=α.tick) (f:=0) hrt.1.ln (by omega) hrt.2.1 (AS.cJ hI hc1.ln)]
  simp only [go_sem]
  (rw [if_neg (by omega)];refine Eq.mpr (H.J1 ..) ?_)
  unfold jX.J1.T aH
  have s2:AS.Sm 2 α α.tick.tick:=(AS.aO.trans AS.aO).mono (by omega)
  refine aAt hA2 (hp.rep.lW (S:=fun _=>False) s2.lW (fun _ _ h=>h)) hp.nd hp.ln (Nat.le_refl _) fun M3 β hB hr1 hr2 hcb=>?_
  have hroot:(rp (c::cs) nil).root = r:=by rw [aCQ (c::cs) nil (node n i e l s) (by simp),hr]
  have hrpln:Ln (rp (c::cs) nil):=aIO hl1.o trivial
  have hrpod:Od (rp (c::cs) nil):=aIm ho1 trivial (fun x hx=>by cases hx)
  have hrpi:=aFf (c::cs) nil
  have hrpc:=aBn (c::cs) nil
  rw [show bY nil = [] from rfl,List.append_nil] at hrpi
  rw [show cells nil = [] from rfl,List.append_nil] at hrpc
  have hrpn:∀ x,x∈aP (rp (c::cs) nil)→x∈fP (c::cs):=fun x hx=>hrpc.mem_iff.1 (m7 hx)
  refine aAf hB hr2 q2 hl2 ho2 hml fun M4 γ t' hB4 hp' hi hcel he hg=>?_
  simp only [go_sem]
  have hmem:∀ c,c∈cells t'→c∈cells l∨c∈cells s:=fun c hc=>List.mem_append.1 (hcel.mem_iff.1 hc)
  have hrpg:fG γ (-1) (rp (c::cs) nil):=hr1.congr (fun x hx f=>he.get x (fun hx2=>q3 x (hrpc.mem_iff.1 hx) x hx2 rfl) f) (fun x hx=>he.live x (fun e0=>q3 x (hrpc.mem_iff.1 hx) n (by simp [cells]) e0))
  have hcc:(cells (rp (c::cs) nil) ++ cells t').Nodup:=by
   refine (hrpc.append hcel).nodup_iff.2 ?_
   rw [List.nodup_append]
   refine ⟨q1,hcel.nodup_iff.1 hp'.nd,fun x hx y hy e0=>q3 x hx y ?_ e0⟩
   have:=List.mem_append.1 hy
   simp [cells,this]
  have hk:(bY (rp (c::cs) nil)).length + (bY t').length≤(bY (iL (c::cs) (node n i e l s))).length:=by
   rw [hrpi.length_eq,htl,hi.length_eq];simp only [List.length_append];omega
  have hk1:=uY hrpln (m:=(bY (iL (c::cs) (node n i e l s))).length) (by omega)
  have hk2:=uY hp'.ln (m:=(bY (iL (c::cs) (node n i e l s))).length) (by omega)
  rw [←hroot]
  refine rL (t:=rp (c::cs) nil) (s:=t') hB4 hrpg hp'.rep hcc hk fun M5 δ hB5 hr5 hc5=>?_
  simp only [go_sem]
  have hits:=oN _ _ _ hk
  have hcel5:=oA _ _ _ hk
  have hm5:∀ x,x∈cells (mG (bY (iL (c::cs) (node n i e l s))).length (rp (c::cs) nil) t')→x∈fP (c::cs)∨x∈cells l∨x∈cells s:=fun x hx=>by
   rcases List.mem_append.1 (hcel5.mem_iff.1 hx) with hx | hx
   ·exact .inl (hrpc.mem_iff.1 hx)
   ·exact .inr (hmem x hx)
  have hiN:i ∉ fP (c::cs):=fun hx=>q3 i hx i (by simp [cells]) rfl
  have hnN:n ∉ fP (c::cs):=fun hx=>q3 n hx n (by simp [cells]) rfl
  have hi2:¬ (i∈aP (rp (c::cs) nil)∨i∈aP t'):=by
   rintro (h9 | h9)
   ·exact hiN (hrpn i h9)
   ·rcases hmem i (m7 h9) with h8 | h8
    ·exact b1 h8
    ·exact b2 h8
  refine h (zN (c::cs) ++ (bY l ++ bY s)) (uP _ _ _ _ _ _) M5 δ _ n hnn hB5 ⟨rfl,hr5,hcel5.nodup_iff.2 hcc,u7 _ _ _ hrpln hp'.ln,vM _ _ _ hk hrpod hp'.od fun x hx y hy e0=>?_⟩ (hits.trans (hrpi.append hi)) (fun x hx=>?_) (fun hx=>?_) (fun hx=>?_) ?_ ⟨?_,?_⟩
  ·exact (List.nodup_append.1 hcc).2.2 _ (oR hx) _ (oR hy) e0
  ·rcases hm5 x hx with hx | hx | hx
   ·exact hc x (.inl hx)
   ·exact hc x (.inr (by simp [cells,hx]))
   ·exact hc x (.inr (by simp [cells,hx]))
  ·rcases hm5 i hx with hx | hx | hx
   ·exact hiN hx
   ·exact b1 hx
   ·exact b2 hx
  ·rcases hm5 n hx with hx | hx | hx
   ·exact hnN hx
   ·exact a2 hx
   ·exact a3 hx
  ·have e1:AS.lT (fun x=>x∈cells (iL (c::cs) (node n i e l s))) (· = n) 0 (9 * bl (bY (iL (c::cs) (node n i e l s))).length + 18) α β:=((s2.lW.trans hcb).mono (fun x hx=>by
     rcases hx with hx | rfl
     ·exact hc x (.inl (yZ hx))
     ·exact hc x (.inr (by simp [cells]))) (by omega)).pZ
   have e2:=he.mono (S':=fun x=>x∈cells (iL (c::cs) (node n i e l s))) (L':=(· = n)) (fun x hx=>hc x (.inr hx)) (fun _ h=>h) (Int.le_refl _)
   have e3:AS.lT (fun x=>x∈cells (iL (c::cs) (node n i e l s))) (· = n) 0 _ γ δ:=(hc5.mono (fun x hx=>by
     rcases hx with hx | hx
     ·exact hc x (.inl (hrpn x hx))
     ·have:=hmem x (m7 hx)
      exact hc x (.inr (by simp [cells,this]))) (Int.le_refl _)).pZ
   exact (((e1.trans e2).trans e3).mono (fun _ h=>h) (fun _ h=>h) (sD (by omega))).to (by omega)
  ·rw [hc5.get i hi2];exact hg.1
  ·rw [hc5.live,he.live i (fun e0=>a1 e0.symm),hcb.live]
   exact hrt.1.li
theorem aE5 (hA:aA w0 F M (aF a α)) {r s:Int} {t u:LT} (hp:Hp α r t) (hq:Hp α s u) (hd:(cells t ++ cells u).Nodup)
  (h:∀ M' β t',aA w0 F M' (aF a β)→Hp β t'.root t'→(bY t').Perm (bY t ++ bY u)→(cells t').Perm (cells t ++ cells u)→AS.lT (fun c=>c∈cells t∨c∈cells u) (fun _=>False) 0 (dO ((bY t).length + (bY u).length)) α β→R (.int .i64 t'.root) M') :
  C PP w0 Id.oH #[.pointer (some ⟨a,0,none⟩),.int .i64 r,.int .i64 s] R M:=by
 apply oH.go
 unfold oH.T aH
 simp only [go_sem,Option.isNone_some,mE]
 rw [hp.r,hq.r]
 have hk:(bY t).length + (bY u).length≤(bY t).length + (bY u).length:=Nat.le_refl _
 refine rL (t:=t) (s:=u) hA hp.rep hq.rep hd hk fun M1 β hB hr hc=>?_
 simp only [go_sem]
 have h1:=uY hp.ln (m:=(bY t).length + (bY u).length) (by omega)
 have h2:=uY hq.ln (m:=(bY t).length + (bY u).length) (by omega)
 have hcel:=oA _ _ _ hk
 refine h M1 β _ hB ⟨rfl,hr,hcel.nodup_iff.2 hd,u7 _ _ _ hp.ln hq.ln,vM _ _ _ hk hp.od hq.od fun x hx y hy e0=>?_⟩ (oN _ _ _ hk) hcel ((hc.mono (fun x hx=>?_) (sD (by omega))).pZ)
 ·exact (List.nodup_append.1 hd).2.2 _ (oR hx) _ (oR hy) e0
 ·rcases hx with hx | hx
  ·exact .inl (m7 hx)
  ·exact .inr (m7 hx)
theorem aGH (hA:aA w0 F M (aF a α)) {r:Int} {t:LT} (hp:Hp α r t)
  (h0:t = .nil→∀ M' β,aA w0 F M' (aF a β)→AS.Sm 1 α β→R (.int .i64 (-1)) M')
  (h:∀ x L,(bY t).Perm (x::L)→(∀ y∈L,Bf x y)→∀ M' β,aA w0 F M' (aF a β)→AS.Sm 1 α β→R (.int .i64 (x.1:Int)) M') :
  C PP w0 Id.rM #[.pointer (some ⟨a,0,none⟩),.int .i64 r] R M:=by
 apply rM.go
 unfold rM.T aH
 simp only [go_sem,Option.isNone_some,mE]
 rw [hp.r]
 refine eZ hA fun M1 hA1=>?_
 cases t with
 | nil =>
  rw [show LT.nil.root = -1 from rfl,AS.aFq AS.xP]
  simp only [go_sem]
  exact h0 rfl M1 _ hA1 AS.aO
 | node n i e l s =>
  rw [show (node n i e l s).root = (n:Int) from rfl,show α.fR (n:Int) 6 = (i:Int) from AS.dI (f:=6) hp.rep.1.ln (by omega) hp.rep.1.it (AS.cJ hA.inv hp.rep.1.li)]
  simp only [go_sem]
  exact h (i,e) (bY l ++ bY s) (List.Perm.refl _) (aHB hp.od) M1 _ hA1 AS.aO
end
end HL
namespace HL
inductive ST where
 | nil
 | node (n k:Nat) (c s:ST)
structure Tn where
 n:Nat
 k:Nat
 c:ST
namespace ST
def root:ST→Int
 | nil => -1
 | node n _ _ _=>(n:Int)
def aP:ST→List Nat
 | nil=>[]
 | node n _ c s=>n::(aP c ++ aP s)
def fo:List Tn→ST
 | []=>nil
 | t::l=>node t.n t.k t.c (fo l)
def dD:ST→List Tn
 | nil=>[]
 | node n k c s=>⟨n,k,c⟩::dD s
theorem aBL:∀ (b:ST),fo (dD b) = b
 | nil=>rfl
 | node n k c s=>by simp only [dD,fo,aBL s]
theorem aHV:∀ (l:List Tn),dD (fo l) = l
 | []=>rfl
 | t::l=>by simp only [dD,fo,aHV l]
def eX (t:Tn):List Nat:=t.n::aP t.c
def aS (l:List Tn):List Nat:=l.flatMap eX
theorem m5 (t:Tn) (l:List Tn):aS (t::l) = t.n::(aP t.c ++ aS l):=rfl
theorem lS (l m:List Tn):aS (l ++ m) = aS l ++ aS m:=List.flatMap_append
theorem qW:∀ (l:List Tn),aP (fo l) = aS l
 | []=>rfl
 | t::l=>by rw [m5,fo,aP,qW l]
theorem bT (b:ST):aS (dD b) = aP b:=by rw [←qW,aBL]
theorem uK {l m:List Tn} (h:l.Perm m):(aS l).Perm (aS m):=h.flatMap_right _
theorem zK:∀ {b:ST} {n:Nat},b.root = (n:Int)→n∈aP b
 | nil,n,h=>by simp only [root] at h;omega
 | node m k c s,n,h=>by
  simp only [root] at h
  have:m = n:=by omega
  subst this
  simp [aP]
theorem eK {l:List Tn} {x:Nat}:x∈aS l↔∃ t∈l,x∈eX t:=List.mem_flatMap
def St (α:AS):Int→ST→Prop
 | _,nil=>True
 | up,node n k c s=>α.get n 0 = up∧α.get n 1 = c.root∧α.get n 3 = s.root∧α.get n 4 = (k:Int)∧St α n c∧St α up s
def zS (α:AS) (t:Tn):Prop:=α.get t.n 1 = t.c.root∧α.get t.n 4 = (t.k:Int)∧St α t.n t.c
theorem St.congr {α β:AS}:∀ {b:ST} {up:Int},St α up b→(∀ n∈aP b,∀ f,f≠6→β.get n f = α.get n f)→St β up b
 | nil,_,_,_=>trivial
 | node n k c s,up,⟨h1,h2,h3,h4,h5,h6⟩,hg=>by
  simp only [aP,List.mem_cons,List.mem_append] at hg
  exact ⟨(hg n (.inl rfl) 0 (by decide)).trans h1,(hg n (.inl rfl) 1 (by decide)).trans h2,(hg n (.inl rfl) 3 (by decide)).trans h3,(hg n (.inl rfl) 4 (by decide)).trans h4,
   h5.congr fun x hx=>hg x (.inr (.inl hx)),h6.congr fun x hx=>hg x (.inr (.inr hx))⟩
theorem St.lW {α β:AS} {S:Nat→Prop} {k:Int} {b:ST} {up:Int} (h:St α up b) (hc:AS.n9 S k α β) (hS:∀ x∈aP b,¬ S x):St β up b :=
 h.congr fun n hn f _=>hc.get n (hS n hn) f
theorem zS.lW {α β:AS} {S:Nat→Prop} {k:Int} {t:Tn} (h:zS α t) (hc:AS.n9 S k α β) (hS:∀ x∈eX t,¬ S x):zS β t :=
 ⟨(hc.get _ (hS _ List.mem_cons_self) _).trans h.1,(hc.get _ (hS _ List.mem_cons_self) _).trans h.2.1,h.2.2.lW hc fun x hx=>hS x (List.mem_cons_of_mem _ hx)⟩
theorem St.sm {α β:AS} {k:Int} {b:ST} {up:Int} (h:St α up b) (hc:AS.Sm k α β):St β up b:=h.congr fun n hn f _=>by rw [hc.get]
theorem zS.sm {α β:AS} {k:Int} {t:Tn} (h:zS α t) (hc:AS.Sm k α β):zS β t:=⟨by rw [hc.get];exact h.1,by rw [hc.get];exact h.2.1,h.2.2.sm hc⟩
theorem St.dD {α:AS}:∀ {b:ST} {up:Int},St α up b→∀ t∈dD b,zS α t
 | nil,_,_,t,ht=>by cases ht
 | node n k c s,up,⟨h1,h2,h3,h4,h5,h6⟩,t,ht=>by
  rcases List.mem_cons.1 ht with rfl | ht
  ·exact ⟨h2,h4,h5⟩
  ·exact h6.dD t ht
def Lb (α:AS) (f:Nat→cH) (N:List Nat):Prop:=∀ n∈N,α.Nd n (f n).1 (f n).2
def hT (f:Nat→cH) (N:List Nat):List cH:=N.map f
def bG (f:Nat→cH) (N:List Nat):List Nat:=N ++ N.map fun n=>(f n).1
theorem Lb.congr {α β:AS} {f:Nat→cH} {N:List Nat} (h:Lb α f N) (hg:∀ c∈bG f N,∀ g,(g = 6∨g = 7∨g = 8∨g = 9)→β.get c g = α.get c g) (hl:∀ c∈bG f N,β.live c = α.live c):Lb β f N:=fun n hn=>by
 have h1:n∈bG f N:=List.mem_append_left _ hn
 have h2:(f n).1∈bG f N:=List.mem_append_right _ (List.mem_map.2 ⟨n,hn,rfl⟩)
 have h3:=h n hn
 exact ⟨(hl _ h1).trans h3.ln,(hl _ h2).trans h3.li,(hg _ h1 6 (by simp)).trans h3.it,(hg _ h2 9 (by simp)).trans h3.nd,(hg _ h2 7 (by simp)).trans h3.k,(hg _ h2 8 (by simp)).trans h3.s⟩
theorem Lb.sm {α β:AS} {k:Int} {f:Nat→cH} {N:List Nat} (h:Lb α f N) (hs:AS.Sm k α β):Lb β f N:=h.congr (fun c _ g _=>by rw [hs.get]) (fun c _=>by rw [hs.live])
theorem Lb.sub {α:AS} {f:Nat→cH} {N N':List Nat} (h:Lb α f N) (hs:∀ n∈N',n∈N):Lb α f N':=fun n hn=>h n (hs n hn)
theorem kE {f:Nat→cH} {N N':List Nat} (h:N.Perm N'):(bG f N).Perm (bG f N'):=h.append (h.map _)
theorem vE {f g:Nat→cH} {N:List Nat} (h:∀ n∈N,g n = f n):bG g N = bG f N:=by
 unfold bG
 rw [List.map_congr_left fun n hn=>by rw [h n hn]]
theorem sK {f g:Nat→cH} {N:List Nat} (h:∀ n∈N,g n = f n):hT g N = hT f N:=List.map_congr_left h
theorem zH (f:Nat→cH) (N N':List Nat):(bG f (N ++ N')).Perm (bG f N ++ bG f N'):=by
 unfold bG
 rw [List.map_append,List.append_assoc,List.append_assoc]
 exact (List.perm_append_comm_assoc N' _ _).append_left N
theorem iK {f:Nat→cH} {N:List Nat} (h:(bG f N).Nodup):N.Nodup:=(List.nodup_append.1 h).1
theorem lH {f:Nat→cH} {N:List Nat} (h:(bG f N).Nodup):∀ x∈N,∀ y∈N,(f x).1 = (f y).1→x = y:=by
 have h2:=(List.nodup_append.1 h).2.1
 intro x hx y hy e
 have hn:∀ {M:List Nat},(M.map fun n=>(f n).1).Nodup→∀ x∈M,∀ y∈M,(f x).1 = (f y).1→x = y:=by
  intro M
  induction M with
  | nil=>intro _ x hx;cases hx
  | cons m M ih =>
   intro hm x hx y hy e
   rw [List.map_cons,List.nodup_cons] at hm
   rcases List.mem_cons.1 hx with h1 | h1 <;> rcases List.mem_cons.1 hy with h2 | h2
   ·rw [h1,h2]
   ·exact absurd (List.mem_map.2 ⟨y,h2,by rw [←e,h1]⟩) hm.1
   ·exact absurd (List.mem_map.2 ⟨x,h1,by rw [e,h2]⟩) hm.1
   ·exact ih hm.2 x h1 y h2 e
 exact hn h2 x hx y hy e
theorem tK {f:Nat→cH} {N:List Nat} (h:(bG f N).Nodup):∀ x∈N,∀ y∈N,x≠(f y).1:=fun x hx y hy=>(List.nodup_append.1 h).2.2 x hx _ (List.mem_map.2 ⟨y,hy,rfl⟩)
def Okk (z k:Nat) (c:ST):Prop:=2 ^ k≤(aP c).length + 1∧(∀ t∈dD c,t.k < k)∧(dD c).length≤z * k∧(dD c).countP (fun t=>t.k != 0)≤k
def Ok (z:Nat):ST→Prop
 | nil=>True
 | node _ k c s=>Okk z k c∧Ok z c∧Ok z s
def x3 (z:Nat) (t:Tn):Prop:=Okk z t.k t.c∧Ok z t.c
section
variable {z:Nat}
theorem aHu:∀ {l:List Tn},Ok z (fo l)↔∀ t∈l,x3 z t
 | []=>by simp [fo,Ok]
 | t::l=>by
  simp only [fo,Ok,aHu (l:=l),List.mem_cons,forall_eq_or_imp,x3]
  exact ⟨fun h=>⟨⟨h.1,h.2.1⟩,h.2.2⟩,fun h=>⟨h.1.1,h.1.2,h.2⟩⟩
theorem gA {b:ST}:Ok z b↔∀ t∈dD b,x3 z t:=by rw [←aHu,aBL]
def und (m w:Tn):Tn:=⟨w.n,w.k,node m.n m.k m.c w.c⟩
def lk (m w:Tn):Tn:=⟨w.n,w.k + 1,node m.n m.k m.c w.c⟩
theorem aHr {m w:Tn} (hz:1≤z) (h1:x3 z m) (h2:x3 z w) (e:m.k = w.k):x3 z (lk m w)∧(dD (lk m w).c).length≤z * w.k + 1:=by
 obtain ⟨⟨a1,a2,a3,a4⟩,a5⟩:=h1
 obtain ⟨⟨b1,b2,b3,b4⟩,b5⟩:=h2
 rw [e] at a1
 refine ⟨⟨⟨?_,?_,?_,?_⟩,⟨by rw [e];exact ⟨a1,by rw [←e];exact a2,by rw [←e];exact a3,by rw [←e];exact a4⟩,a5,b5⟩⟩,?_⟩
 ·show 2 ^ (w.k + 1)≤(m.n::(aP m.c ++ aP w.c)).length + 1
  rw [Nat.pow_succ,List.length_cons,List.length_append];omega
 ·intro t ht
  show t.k < w.k + 1
  rcases List.mem_cons.1 ht with rfl | ht
  ·show m.k < _;omega
  ·have:=b2 t ht;omega
 ·show (_::dD w.c).length≤z * (w.k + 1)
  rw [List.length_cons,Nat.mul_succ];omega
 ·show (_::dD w.c).countP _≤w.k + 1
  rw [List.countP_cons];split <;> omega
 ·show (_::dD w.c).length≤_
  rw [List.length_cons];omega
theorem aJ9 {m w:Tn} (h2:x3 z w) (hm:m.c = nil) (hk:m.k = 0) (hl:(dD w.c).length + 1≤z * w.k):x3 z (und m w):=by
 obtain ⟨⟨b1,b2,b3,b4⟩,b5⟩:=h2
 refine ⟨⟨?_,?_,?_,?_⟩,⟨?_,?_,b5⟩⟩
 ·show 2 ^ w.k≤(m.n::(aP m.c ++ aP w.c)).length + 1
  rw [List.length_cons,List.length_append];omega
 ·intro t ht
  show t.k < w.k
  rcases List.mem_cons.1 ht with rfl | ht
  ·show m.k < _
   rw [hk]
   rcases Nat.eq_zero_or_pos w.k with e | e
   ·rw [e,Nat.mul_zero] at hl;omega
   ·exact e
  ·exact b2 t ht
 ·show (_::dD w.c).length≤z * w.k
  rw [List.length_cons];omega
 ·show (_::dD w.c).countP _≤w.k
  rw [List.countP_cons_of_neg (by simp [hk])]
  exact b4
 ·unfold Okk
  rw [hm,hk]
  exact ⟨by simp [aP],fun t ht=>(by cases ht),by simp [dD],by simp [dD]⟩
 ·rw [hm];trivial
theorem aF7 {n:Nat}:x3 z ⟨n,0,nil⟩:=⟨⟨by simp [aP],fun t ht=>(by cases ht),by simp [dD],by simp [dD]⟩,trivial⟩
theorem aJm {t:Tn} (h:x3 z t) (hk:t.k = 0):t.c = nil:=by
 have h3:=h.1.2.2.1
 rw [hk] at h3
 cases hc:t.c with
 | nil=>rfl
 | node n k c s=>rw [hc] at h3;simp [dD] at h3
theorem zM {t:Tn} (h:x3 z t):2 ^ t.k≤(eX t).length:=by
 have:=h.1.1
 show _≤(aP t.c).length + 1
 exact this
def Rs (l:List Tn):Prop:=l.Pairwise fun a b=>a.k < b.k
def Wk:List Tn→Prop
 | []=>True
 | t::l=>Rs l∧∀ x∈l,t.k≤x.k
theorem Rs.wk:∀ {l:List Tn},Rs l→Wk l
 | [],_=>trivial
 | t::l,h=>⟨(List.pairwise_cons.1 h).2,fun x hx=>Nat.le_of_lt ((List.pairwise_cons.1 h).1 x hx)⟩
theorem aCV:∀ {l:List Tn} {j:Nat},Rs l→(∀ t∈l,x3 z t∧j≤t.k)→2 ^ (j + l.length)≤(aS l).length + 2 ^ j
 | [],j,_,_=>by simp [aS]
 | t::l,j,h,ho=>by
  obtain ⟨h1,h2⟩:=List.pairwise_cons.1 h
  obtain ⟨h3,h4⟩:=ho t List.mem_cons_self
  have h5:=aCV (j:=j + 1) h2 fun x hx=>⟨(ho x (List.mem_cons_of_mem _ hx)).1,by have:=h1 x hx;omega⟩
  have h6:2 ^ j≤2 ^ t.k:=Nat.pow_le_pow_right (by decide) h4
  have h7:=zM h3
  rw [m5,List.length_cons,List.length_cons,List.length_append]
  rw [show j + (l.length + 1) = j + 1 + l.length from by omega]
  rw [Nat.pow_succ] at h5
  simp only [eX,List.length_cons] at h7
  omega
theorem aL0 {l:List Tn} (h:Rs l) (ho:∀ t∈l,x3 z t) {m:Nat} (hm:(aS l).length≤m):l.length≤bl m:=by
 have h1:=aCV (j:=0) h fun t ht=>⟨ho t ht,Nat.zero_le _⟩
 rw [Nat.zero_add,Nat.pow_zero] at h1
 cases hr:l.length with
 | zero=>omega
 | succ r =>
  rw [hr,Nat.pow_succ] at h1
  have h2:1≤2 ^ r:=Nat.one_le_two_pow
  exact aCP (Nat.le_trans (by omega:2 ^ r≤(aS l).length) hm)
theorem wA {l:List Tn} (h:Wk l) (ho:∀ t∈l,x3 z t) {m:Nat} (hm:(aS l).length≤m):l.length≤bl m + 1:=by
 cases l with
 | nil=>simp
 | cons t l =>
  rw [m5,List.length_cons,List.length_append] at hm
  have:=aL0 h.1 (fun x hx=>ho x (List.mem_cons_of_mem _ hx)) (m:=m) (by omega)
  rw [List.length_cons];omega
theorem y9 {t:Tn} (h:x3 z t) {m:Nat} (hm:(eX t).length≤m):t.k + 1≤bl m:=aCP (Nat.le_trans (zM h) hm)
end
theorem tG {t:Tn} {l:List Tn} (h:t∈l):(eX t).length≤(aS l).length:=by
 obtain ⟨a,b,rfl⟩:=List.append_of_mem h
 rw [lS,List.length_append,m5,List.length_cons,List.length_append]
 simp only [eX,List.length_cons];omega
def Od (f:Nat→cH):ST→Prop
 | nil=>True
 | node n _ c s=>(∀ x∈aP c,Bf (f n) (f x))∧Od f c∧Od f s
def y3 (f:Nat→cH) (t:Tn):Prop:=(∀ x∈aP t.c,Bf (f t.n) (f x))∧Od f t.c
theorem aHK {f:Nat→cH}:∀ {l:List Tn},Od f (fo l)↔∀ t∈l,y3 f t
 | []=>by simp [fo,Od]
 | t::l=>by
  simp only [fo,Od,aHK (l:=l),List.mem_cons,forall_eq_or_imp,y3]
  exact ⟨fun h=>⟨⟨h.1,h.2.1⟩,h.2.2⟩,fun h=>⟨h.1.1,h.1.2,h.2⟩⟩
theorem qA {f:Nat→cH} {b:ST}:Od f b↔∀ t∈dD b,y3 f t:=by rw [←aHK,aBL]
theorem Od.congr {f g:Nat→cH}:∀ {b:ST},Od f b→(∀ n∈aP b,g n = f n)→Od g b
 | nil,_,_=>trivial
 | node n k c s,⟨h1,h2,h3⟩,hg=>by
  simp only [aP,List.mem_cons,List.mem_append] at hg
  refine ⟨fun x hx=>?_,h2.congr fun x hx=>hg x (.inr (.inl hx)),h3.congr fun x hx=>hg x (.inr (.inr hx))⟩
  rw [hg n (.inl rfl),hg x (.inr (.inl hx))];exact h1 x hx
theorem y3.congr {f g:Nat→cH} {t:Tn} (h:y3 f t) (hg:∀ n∈eX t,g n = f n):y3 g t:=by
 refine ⟨fun x hx=>?_,h.2.congr fun x hx=>hg x (List.mem_cons_of_mem _ hx)⟩
 rw [hg _ List.mem_cons_self,hg x (List.mem_cons_of_mem _ hx)];exact h.1 x hx
theorem y3.le {f:Nat→cH} {t:Tn} (h:y3 f t) {y:cH} (hy:Bf y (f t.n)):∀ x∈eX t,Bf y (f x):=fun x hx=>by
 rcases List.mem_cons.1 hx with rfl | hx
 ·exact hy
 ·exact hy.tr (h.1 x hx)
theorem aBm {f:Nat→cH} {m w:Tn} {k:Nat} (h1:y3 f m) (h2:y3 f w) (hb:Bf (f w.n) (f m.n)):y3 f ⟨w.n,k,node m.n m.k m.c w.c⟩:=by
 refine ⟨fun x hx=>?_,⟨h1.1,h1.2,h2.2⟩⟩
 have hx':x∈m.n::(aP m.c ++ aP w.c):=hx
 rcases List.mem_cons.1 hx' with rfl | hx'
 ·exact hb
 ·rcases List.mem_append.1 hx' with hx' | hx'
  ·exact hb.tr (h1.1 x hx')
  ·exact h2.1 x hx'
def nE:ST→Nat→List Nat
 | nil,_=>[]
 | node n _ c s,x=>if x = n then [] else if x∈aP c then nE c x ++ [n] else nE s x
theorem aFb (n k:Nat) (c s:ST) (x:Nat):nE (node n k c s) x = if x = n then [] else if x∈aP c then nE c x ++ [n] else nE s x:=rfl
theorem aHq {n k:Nat} {c s:ST} {x:Nat} (h1:x≠n) (h2:x∈aP c):nE (node n k c s) x = nE c x ++ [n]:=by rw [aFb,if_neg h1,if_pos h2]
theorem aII {n k:Nat} {c s:ST} {x:Nat} (h1:x≠n) (h2:x ∉ aP c):nE (node n k c s) x = nE s x:=by rw [aFb,if_neg h1,if_neg h2]
theorem aKR {n k:Nat} {c s:ST}:nE (node n k c s) n = []:=by rw [aFb,if_pos rfl]
theorem oU:∀ {b:ST} {x y:Nat},y∈nE b x→y∈aP b
 | nil,x,y,h=>by cases h
 | node n k c s,x,y,h=>by
  unfold nE at h
  split at h
  ·cases h
  ·split at h
   ·rcases List.mem_append.1 h with h | h
    ·simp [aP,oU h]
    ·simp [aP,List.mem_singleton.1 h]
   ·simp [aP,oU h]
theorem aC7 {α:AS}:∀ {b:ST} {up:Int} {x:Nat},St α up b→x∈aP b→(aP b).Nodup→α.get x 0 = match nE b x with | []=>up | y::_=>(y:Int)
 | nil,_,_,_,h,_=>by cases h
 | node n k c s,up,x,⟨h1,h2,h3,h4,h5,h6⟩,hx,hn=>by
  simp only [aP,List.nodup_cons,List.mem_append,not_or] at hn
  obtain ⟨n1,n2,n3⟩:=List.nodup_append.1 hn.2
  by_cases e:x = n
  ·subst e
   rw [aKR];exact h1
  ·by_cases hc:x∈aP c
   ·rw [aHq e hc,aC7 h5 hc n1]
    cases nE c x <;> rfl
   ·have hs:x∈aP s:=by
     rcases List.mem_cons.1 hx with hx | hx
     ·exact absurd hx e
     ·rcases List.mem_append.1 hx with hx | hx
      ·exact absurd hx hc
      ·exact hx
    rw [aII e hc]
    exact aC7 h6 hs n2
theorem aBf:∀ {b:ST} {x:Nat},x∈aP b→(aP b).Nodup→nE b x = []→∃ t∈dD b,t.n = x
 | nil,_,h,_,_=>by cases h
 | node n k c s,x,hx,hn,ha=>by
  simp only [aP,List.nodup_cons,List.mem_append,not_or] at hn
  obtain ⟨n1,n2,n3⟩:=List.nodup_append.1 hn.2
  unfold nE at ha
  split at ha
  ·rename_i e;exact ⟨_,List.mem_cons_self,e.symm⟩
  ·rename_i e
   split at ha
   ·simp at ha
   ·rename_i hc
    have hs:x∈aP s:=by
     rcases List.mem_cons.1 hx with hx | hx
     ·exact absurd hx e
     ·rcases List.mem_append.1 hx with hx | hx
      ·exact absurd hx hc
      ·exact hx
    obtain ⟨t,ht,e⟩:=aBf hs n2 ha
    exact ⟨t,List.mem_cons_of_mem _ ht,e⟩
theorem xS {z:Nat}:∀ {b:ST} {x:Nat},Ok z b→x∈aP b→∃ t∈dD b,(nE b x).length≤t.k
 | nil,_,_,h=>by cases h
 | node n k c s,x,⟨h1,h2,h3⟩,hx=>by
  unfold nE
  split
  ·exact ⟨⟨n,k,c⟩,List.mem_cons_self,Nat.zero_le _⟩
  ·rename_i e
   split
   ·rename_i hc
    obtain ⟨t,ht,hl⟩:=xS h2 hc
    refine ⟨⟨n,k,c⟩,List.mem_cons_self,?_⟩
    have:=h1.2.1 t ht
    rw [List.length_append,List.length_singleton]
    show _≤k
    omega
   ·rename_i hc
    have hs:x∈aP s:=by
     rcases List.mem_cons.1 hx with hx | hx
     ·exact absurd hx e
     ·rcases List.mem_append.1 hx with hx | hx
      ·exact absurd hx hc
      ·exact hx
    obtain ⟨t,ht,hl⟩:=xS h3 hs
    exact ⟨t,List.mem_cons_of_mem _ ht,hl⟩
theorem uG:∀ {b:ST} {x y:Nat},(aP b).Nodup→y∈nE b x→∃ p,nE b x = p ++ y::nE b y
 | nil,_,_,_,h=>by cases h
 | node n k c s,x,y,hn,hy=>by
  have hn0:=hn
  simp only [aP,List.nodup_cons,List.mem_append,not_or] at hn
  obtain ⟨n1,n2,n3⟩:=List.nodup_append.1 hn.2
  unfold nE at hy ⊢
  split
  ·rename_i e;rw [if_pos e] at hy;cases hy
  ·rename_i e
   rw [if_neg e] at hy
   split
   ·rename_i hc
    rw [if_pos hc] at hy
    rcases List.mem_append.1 hy with hy | hy
    ·have hyc:=oU hy
     have hyn:y≠n:=fun e=>hn.1.1 (e▸hyc)
     obtain ⟨p,hp⟩:=uG n1 hy
     rw [if_neg hyn,if_pos hyc]
     exact ⟨p,by rw [hp];simp⟩
    ·have:=List.mem_singleton.1 hy
     subst this
     rw [if_pos rfl]
     exact ⟨nE c x,rfl⟩
   ·rename_i hc
    rw [if_neg hc] at hy
    have hys:=oU hy
    have hyn:y≠n:=fun e=>hn.1.2 (e▸hys)
    have hyc:y ∉ aP c:=fun h=>n3 y h y hys rfl
    obtain ⟨p,hp⟩:=uG n2 hy
    rw [if_neg hyn,if_neg hyc]
    exact ⟨p,hp⟩
theorem pC {b:ST} {x:Nat} (hn:(aP b).Nodup):x ∉ nE b x:=fun h=>by
 obtain ⟨p,hp⟩:=uG hn h
 have:=congrArg List.length hp
 rw [List.length_append,List.length_cons] at this
 omega
theorem aLx {b:ST} {x y z:Nat} (hn:(aP b).Nodup) (h1:y∈nE b x) (h2:z∈nE b y):z∈nE b x:=by
 obtain ⟨p,hp⟩:=uG hn h1
 rw [hp];simp [h2]
theorem aBH {b:ST} {x y:Nat} {l:List Nat} (hn:(aP b).Nodup) (h:nE b x = y::l):nE b y = l:=by
 obtain ⟨p,hp⟩:=uG hn (x:=x) (y:=y) (by rw [h];simp)
 rw [h] at hp
 cases p with
 | nil=>simpa using hp.symm
 | cons z p =>
  simp only [List.cons_append,List.cons.injEq] at hp
  obtain ⟨rfl,hp⟩:=hp
  have h1:=pC hn (x:=x)
  have h2:y∈nE b y→False:=fun h=>pC hn h
  have h3:nE b x = (y::p) ++ y::nE b y:=by rw [h,hp];rfl
  have h4:=congrArg List.length h3
  exfalso
  have key:∀ (q:List Nat),nE b x = q ++ y::nE b y→∀ (q' l':List Nat),nE b x = q' ++ y::l'→q' = q:=by
   have fW:(nE b x).Nodup:=aGq hn
   intro q hq q' l' hq'
   rw [hq] at hq' fW
   have a1:=List.nodup_append.1 fW
   rw [List.append_eq_append_iff] at hq'
   rcases hq' with ⟨r,e1,e2⟩ | ⟨r,e1,e2⟩
   ·cases r with
    | nil=>simpa using e1
    | cons u r =>
     simp only [List.cons_append,List.cons.injEq] at e2
     obtain ⟨rfl,e2⟩:=e2
     have:=(List.nodup_cons.1 a1.2.1).1
     rw [e2] at this
     exact absurd (by simp) this
   ·cases r with
    | nil=>simpa using e1.symm
    | cons u r =>
     simp only [List.cons_append,List.cons.injEq] at e2
     obtain ⟨rfl,e2⟩:=e2
     exact absurd rfl (a1.2.2 y (by rw [e1];simp) y (by simp))
  have:=key (y::p) h3 [] l h
  cases this
where
 aGq {b:ST} {x:Nat} (hn:(aP b).Nodup):(nE b x).Nodup:=by
  induction b with
  | nil=>exact List.nodup_nil
  | node n k c s ihc ihs =>
   simp only [aP,List.nodup_cons,List.mem_append,not_or] at hn
   obtain ⟨n1,n2,n3⟩:=List.nodup_append.1 hn.2
   unfold nE
   split
   ·exact List.nodup_nil
   ·split
    ·rw [List.nodup_append]
     refine ⟨ihc n1,by simp,fun a ha b hb e=>?_⟩
     rw [List.mem_singleton.1 hb] at e
     exact hn.1.1 (e▸oU ha)
    ·exact ihs n2
def OdA (f:Nat→cH) (b:ST):Prop:=∀ x∈aP b,∀ y∈nE b x,Bf (f y) (f x)
theorem sM {f:Nat→cH}:∀ {b:ST},(aP b).Nodup→(Od f b↔OdA f b)
 | nil,_=>⟨fun _ x hx=>(by cases hx),fun _=>trivial⟩
 | node n k c s,hn=>by
  simp only [aP,List.nodup_cons,List.mem_append,not_or] at hn
  obtain ⟨n1,n2,n3⟩:=List.nodup_append.1 hn.2
  have hac:∀ x∈aP c,nE (node n k c s) x = nE c x ++ [n]:=fun x hx=>aHq (fun e=>hn.1.1 (e▸hx)) hx
  have has:∀ x∈aP s,nE (node n k c s) x = nE s x:=fun x hx=>aII (fun e=>hn.1.2 (e▸hx)) (fun h=>n3 x h x hx rfl)
  have an:nE (node n k c s) n = []:=aKR
  simp only [Od,sM n1,sM n2]
  constructor
  ·rintro ⟨h1,h2,h3⟩ x hx y hy
   rcases List.mem_cons.1 hx with rfl | hx
   ·rw [an] at hy;cases hy
   ·rcases List.mem_append.1 hx with hx | hx
    ·rw [hac x hx] at hy
     rcases List.mem_append.1 hy with hy | hy
     ·exact h2 x hx y hy
     ·rw [List.mem_singleton.1 hy];exact h1 x hx
    ·rw [has x hx] at hy
     exact h3 x hx y hy
  ·intro h
   refine ⟨fun x hx=>h x (by simp [aP,hx]) n (by rw [hac x hx];simp),fun x hx y hy=>h x (by simp [aP,hx]) y (by rw [hac x hx];simp [hy]),fun x hx y hy=>h x (by simp [aP,hx]) y (by rw [has x hx];exact hy)⟩
def sw (f:Nat→cH) (n m:Nat):Nat→cH:=fun x=>if x = n then f m else if x = m then f n else f x
def Hol (f:Nat→cH) (b:ST) (h:Nat):Prop:=∀ x∈aP b,∀ y∈nE b x,x≠h→y≠h→Bf (f y) (f x)
def aDX (f:Nat→cH) (b:ST) (h:Nat):Prop:=∀ x∈aP b,h∈nE b x→Bf (f h) (f x)
theorem Hol.step {f:Nat→cH} {b:ST} {h p:Nat} {l:List Nat} (hn:(aP b).Nodup) (hh:h∈aP b) (H:Hol f b h) (ha:nE b h = p::l):Hol (sw f h p) b p:=by
 have hp:nE b p = l:=aBH hn ha
 have hpn:p∈aP b:=oU (x:=h) (by rw [ha];simp)
 have hhp:p≠h:=fun e=>pC hn (x:=h) (by rw [ha,e];simp)
 intro x hx y hy hxp hyp
 unfold sw
 by_cases exh:x = h
 ·subst exh
  rw [if_pos rfl]
  rw [ha] at hy
  have hyl:y∈l:=(List.mem_cons.1 hy).resolve_left hyp
  have hyx:y≠x:=fun e=>pC hn (x:=x) (by rw [ha,←e];simp [hyl])
  rw [if_neg hyx,if_neg hyp]
  exact H p hpn y (by rw [hp];exact hyl) hhp hyx
 ·rw [if_neg exh,if_neg hxp]
  by_cases eyh:y = h
  ·subst eyh
   rw [if_pos rfl]
   exact H x hx p (aLx hn hy (by rw [ha];simp)) exh hhp
  ·rw [if_neg eyh,if_neg hyp]
   exact H x hx y hy exh eyh
theorem aDX.step {f:Nat→cH} {b:ST} {h p:Nat} {l:List Nat} (hn:(aP b).Nodup) (hh:h∈aP b) (H:Hol f b h) (ha:nE b h = p::l) (hb:Bf (f h) (f p)):aDX (sw f h p) b p:=by
 have hhp:p≠h:=fun e=>pC hn (x:=h) (by rw [ha,e];simp)
 intro x hx hpx
 have hxp:x≠p:=fun e=>by rw [e] at hpx;exact pC hn hpx
 unfold sw
 rw [if_neg hhp,if_pos rfl]
 by_cases exh:x = h
 ·subst exh
  rw [if_pos rfl];exact hb
 ·rw [if_neg exh,if_neg hxp]
  exact hb.tr (H x hx p hpx exh hhp)
theorem Hol.done {f:Nat→cH} {b:ST} {h:Nat} (hn:(aP b).Nodup) (H:Hol f b h) (D:aDX f b h) (hb:∀ p l,nE b h = p::l→Bf (f p) (f h)):OdA f b:=by
 intro x hx y hy
 by_cases exh:x = h
 ·subst exh
  cases ha:nE b x with
  | nil=>rw [ha] at hy;cases hy
  | cons p l =>
   have h1:=hb p l ha
   rw [ha] at hy
   rcases List.mem_cons.1 hy with rfl | hy
   ·exact h1
   ·have hpn:p∈aP b:=oU (x:=x) (by rw [ha];simp)
    have hp:nE b p = l:=aBH hn ha
    have hpx:p≠x:=fun e=>pC hn (x:=x) (by rw [ha,e];simp)
    have hyx:y≠x:=fun e=>pC hn (x:=x) (by rw [ha,←e];simp [hy])
    exact (H p hpn y (by rw [hp];exact hy) hpx hyx).tr h1
 ·by_cases eyh:y = h
  ·subst eyh;exact D x hx hy
  ·exact H x hx y hy exh eyh
theorem Hol.kids {f:Nat→cH} {b:ST} {t:Tn} (hn:(aP b).Nodup) (ht:t∈dD b) (H:Hol f b t.n):Od f t.c∧∀ u∈dD b,u.n≠t.n→y3 f u:=by
 induction b with
 | nil=>cases ht
 | node n k c s ihc ihs =>
  have hn0:=hn
  simp only [aP,List.nodup_cons,List.mem_append,not_or] at hn
  obtain ⟨n1,n2,n3⟩:=List.nodup_append.1 hn.2
  have hac:∀ x∈aP c,nE (node n k c s) x = nE c x ++ [n]:=fun x hx=>aHq (fun e=>hn.1.1 (e▸hx)) hx
  have has:∀ x∈aP s,nE (node n k c s) x = nE s x:=fun x hx=>aII (fun e=>hn.1.2 (e▸hx)) (fun h=>n3 x h x hx rfl)
  have troot:∀ {s:ST} {u:Tn},u∈dD s→u.n∈aP s:=by
   intro s u hu
   rw [←bT]
   exact eK.2 ⟨u,hu,List.mem_cons_self⟩
  rcases List.mem_cons.1 ht with rfl | ht
  ·refine ⟨(sM n1).2 fun x hx y hy=>?_,fun u hu eT=>?_⟩
   ·exact H x (by simp [aP,hx]) y (by rw [hac x hx];simp [hy]) (fun e=>hn.1.1 ((show x = n from e)▸hx)) (fun e=>hn.1.1 ((show y = n from e)▸oU hy))
   ·rcases List.mem_cons.1 hu with rfl | hu
    ·exact absurd rfl eT
    ·have:Od f s:=(sM n2).2 fun x hx y hy=>H x (by simp [aP,hx]) y (by rw [has x hx];exact hy) (fun e=>hn.1.2 ((show x = n from e)▸hx)) (fun e=>hn.1.2 ((show y = n from e)▸oU hy))
     exact qA.1 this u hu
  ·have htn:=troot ht
   have htc:t.n ∉ aP c:=fun h=>n3 _ h _ htn rfl
   have hnt:n≠t.n:=fun e=>hn.1.2 (e▸htn)
   obtain ⟨g1,g2⟩:=ihs n2 ht fun x hx y hy hxt hyt=>H x (by simp [aP,hx]) y (by rw [has x hx];exact hy) hxt hyt
   refine ⟨g1,fun u hu eT=>?_⟩
   rcases List.mem_cons.1 hu with rfl | hu
   ·refine ⟨fun x hx=>H x (by simp [aP,hx]) n (by rw [hac x hx];simp) (fun e=>htc (e▸hx)) hnt,(sM n1).2 fun x hx y hy=>?_⟩
    exact H x (by simp [aP,hx]) y (by rw [hac x hx];simp [hy]) (fun e=>htc (e▸hx)) (fun e=>htc (e▸oU hy))
   ·exact g2 u hu eT
theorem aEY {f:Nat→cH} {n m:Nat} {N:List Nat} (hn:N.Nodup) (h1:n∈N) (h2:m∈N):(N.map (sw f n m)).Perm (N.map f):=by
 by_cases e:n = m
 ·subst e
  rw [List.map_congr_left fun x _=>show sw f n n x = f x from by unfold sw;split <;> simp_all]
 ·obtain ⟨p,hp⟩:∃ p,N.Perm (n::m::p):=by
   have e1:=(List.perm_cons_erase h1)
   have h3:m∈N.erase n:=(List.mem_erase_of_ne (fun e'=>e e'.symm)).2 h2
   exact ⟨_,e1.trans ((List.perm_cons_erase h3).cons n)⟩
  have fW:=hp.nodup_iff.1 hn
  simp only [List.nodup_cons,List.mem_cons,not_or] at fW
  refine (hp.map _).trans (List.Perm.trans ?_ (hp.map f).symm)
  simp only [List.map_cons]
  rw [show sw f n m n = f m from by unfold sw;simp,show sw f n m m = f n from by unfold sw;rw [if_neg (fun e'=>e e'.symm),if_pos rfl]]
  rw [List.map_congr_left fun x hx=>show sw f n m x = f x from by
   unfold sw
   rw [if_neg (show x≠n from fun e'=>fW.1.2 (e'▸hx)),if_neg (show x≠m from fun e'=>fW.2.1 (e'▸hx))]]
  exact List.Perm.swap _ _ _
theorem aK3 {f:Nat→cH} {n m:Nat} {N:List Nat} (hn:N.Nodup) (h1:n∈N) (h2:m∈N):(bG (sw f n m) N).Perm (bG f N):=by
 unfold bG
 refine List.Perm.append_left N ?_
 have:=(aEY (f:=f) hn h1 h2).map (·.1)
 rw [List.map_map,List.map_map] at this
 exact this
end ST
end HL
namespace HL
structure yS (z:Nat) (α:AS) (r:Int) (f:Nat→cH) (b:ST):Prop where
 r:r = b.root
 st:ST.St α (-1) b
 lb:ST.Lb α f (ST.aP b)
 nd:(ST.bG f (ST.aP b)).Nodup
 ok:ST.Ok z b
 wk:ST.Wk (ST.dD b)
 od:ST.Od f b
theorem yS.nil {z:Nat} {α:AS} {f:Nat→cH}:yS z α (-1) f .nil:=⟨rfl,trivial,fun n hn=>(by cases hn),List.nodup_nil,trivial,trivial,trivial⟩
theorem yS.live {z:Nat} {α:AS} {r:Int} {f:Nat→cH} {b:ST} (h:yS z α r f b):∀ c∈ST.bG f (ST.aP b),α.live c = true:=fun c hc=>by
 rcases List.mem_append.1 hc with hc | hc
 ·exact (h.lb c hc).ln
 ·obtain ⟨n,hn,rfl⟩:=List.mem_map.1 hc
  exact (h.lb n hn).li
theorem yS.congr {z:Nat} {α β:AS} {r:Int} {f:Nat→cH} {b:ST} (h:yS z α r f b) (hg:∀ c∈ST.bG f (ST.aP b),∀ g,β.get c g = α.get c g) (hl:∀ c∈ST.bG f (ST.aP b),β.live c = α.live c):yS z β r f b :=
 ⟨h.r,h.st.congr fun n hn g _=>hg n (List.mem_append_left _ hn) g,h.lb.congr (fun c hc g _=>hg c hc g) hl,h.nd,h.ok,h.wk,h.od⟩
theorem LT.yH:∀ (t:LT),(LT.cells t).Perm (LT.aP t ++ (LT.bY t).map (·.1))
 | .nil=>List.Perm.refl _
 | .node n i e l r=>by
  simp only [LT.cells,LT.aP,LT.bY,List.map_cons,List.map_append,List.cons_append]
  refine List.Perm.cons _ (List.Perm.trans ?_ List.perm_middle.symm)
  refine List.Perm.cons _ (((LT.yH l).append (LT.yH r)).trans ?_)
  rw [List.append_assoc,List.append_assoc]
  exact (List.perm_append_comm_assoc _ _ _).append_left _
def KH (k:Int) (α:AS) (r:Int) (L:List cH) (N:List Nat):Prop :=
 (k = 1∧∃ t:LT,Hp α r t∧(LT.bY t).Perm L∧(LT.aP t).Perm N) ∨
 ((k = 2∨k = 3)∧∃ f b,yS (if k = 2 then 1 else 2) α r f b∧(ST.hT f (ST.aP b)).Perm L∧(ST.aP b).Perm N)
def fN (L:List cH) (N:List Nat):List Nat:=N ++ L.map (·.1)
section
variable {k:Int} {α β:AS} {r:Int} {L L':List cH} {N N':List Nat}
theorem KH.perm (h:KH k α r L N) (h1:L.Perm L') (h2:N.Perm N'):KH k α r L' N':=by
 rcases h with ⟨hk,t,g1,g2,g3⟩ | ⟨hk,f,b,g1,g2,g3⟩
 ·exact .inl ⟨hk,t,g1,g2.trans h1,g3.trans h2⟩
 ·exact .inr ⟨hk,f,b,g1,g2.trans h1,g3.trans h2⟩
theorem j4 (h1:L.Perm L') (h2:N.Perm N'):(fN L N).Perm (fN L' N'):=h2.append (h1.map _)
theorem lY {t:LT} (g2:(LT.bY t).Perm L) (g3:(LT.aP t).Perm N):(LT.cells t).Perm (fN L N):=(LT.yH t).trans (j4 g2 g3)
theorem qD {f:Nat→cH} {b:ST} (g2:(ST.hT f (ST.aP b)).Perm L) (g3:(ST.aP b).Perm N):(ST.bG f (ST.aP b)).Perm (fN L N):=by
 have:ST.bG f (ST.aP b) = fN (ST.hT f (ST.aP b)) (ST.aP b):=by
  unfold ST.bG fN ST.hT
  rw [List.map_map];rfl
 rw [this]
 exact j4 g2 g3
theorem KH.nd (h:KH k α r L N):(fN L N).Nodup:=by
 rcases h with ⟨hk,t,g1,g2,g3⟩ | ⟨hk,f,b,g1,g2,g3⟩
 ·exact (lY g2 g3).nodup_iff.1 g1.nd
 ·exact (qD g2 g3).nodup_iff.1 g1.nd
theorem KH.live (h:KH k α r L N):∀ c∈fN L N,α.live c = true:=fun c hc=>by
 rcases h with ⟨hk,t,g1,g2,g3⟩ | ⟨hk,f,b,g1,g2,g3⟩
 ·exact g1.live c ((lY g2 g3).mem_iff.2 hc)
 ·exact g1.live c ((qD g2 g3).mem_iff.2 hc)
theorem KH.congr (h:KH k α r L N) (hg:∀ c∈fN L N,∀ f,β.get c f = α.get c f) (hl:∀ c∈fN L N,β.live c = α.live c):KH k β r L N:=by
 rcases h with ⟨hk,t,g1,g2,g3⟩ | ⟨hk,f,b,g1,g2,g3⟩
 ·have hp:=lY g2 g3
  exact .inl ⟨hk,t,g1.congr (fun c hc=>hg c (hp.mem_iff.1 hc)) (fun c hc=>hl c (hp.mem_iff.1 hc)),g2,g3⟩
 ·have hp:=qD g2 g3
  exact .inr ⟨hk,f,b,g1.congr (fun c hc=>hg c (hp.mem_iff.1 hc)) (fun c hc=>hl c (hp.mem_iff.1 hc)),g2,g3⟩
theorem KH.pZ {S Lv:Nat→Prop} {d j:Int} (h:KH k α r L N) (he:AS.lT S Lv d j α β) (hS:∀ c∈fN L N,¬ S c) (hL:∀ c∈fN L N,¬ Lv c):KH k β r L N :=
 h.congr (fun c hc f=>he.get c (hS c hc) f) (fun c hc=>he.live c (hL c hc))
theorem KH.sm {j:Int} (h:KH k α r L N) (he:AS.Sm j α β):KH k β r L N:=h.congr (fun c _ f=>by rw [he.get]) (fun c _=>by rw [he.live])
theorem wM {α:AS}:∀ {t:LT} {up:Int} {i:Nat} {e:bR},LT.fG α up t→(i,e)∈LT.bY t→∃ n,α.Nd n i e
 | .nil,_,_,_,_,h=>by cases h
 | .node n j g l s,up,i,e,⟨h1,_,_,_,_,_,h7,h8⟩,h=>by
  simp only [LT.bY,List.mem_cons,List.mem_append] at h
  rcases h with h | h | h
  ·cases h;exact ⟨n,h1⟩
  ·exact wM h7 h
  ·exact wM h8 h
theorem KH.item (h:KH k α r L N) {i:Nat} {e:bR} (hm:(i,e)∈L):α.live i = true∧α.get i 7 = e.1∧α.get i 8 = e.2:=by
 rcases h with ⟨hk,t,g1,g2,g3⟩ | ⟨hk,f,b,g1,g2,g3⟩
 ·obtain ⟨n,hn⟩:=wM g1.rep (g2.mem_iff.2 hm)
  exact ⟨hn.li,hn.k,hn.s⟩
 ·obtain ⟨n,hn,e1⟩:=List.mem_map.1 (g2.mem_iff.2 hm)
  have:=g1.lb n hn
  rw [e1] at this
  exact ⟨this.li,this.k,this.s⟩
theorem KH.nil (h1:1≤k) (h2:k≤3):KH k α (-1) [] []:=by
 by_cases hk:k = 1
 ·subst hk;exact .inl ⟨rfl,.nil,Hp.nil,List.Perm.refl _,List.Perm.refl _⟩
 ·exact .inr ⟨by omega,fun _=>(0,(0,0)),.nil,yS.nil,List.Perm.refl _,List.Perm.refl _⟩
end
end HL
end Go.Proofs.YtodobkbnmjgkdaaGreat
