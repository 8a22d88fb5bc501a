import Derived.Test.YtodobkbnmjgkdaaGreatPe17
namespace Go.Proofs.YtodobkbnmjgkdaaGreat
open Go.RowKit (Below)
set_option linter.unusedVariables false
set_option linter.unusedSimpArgs false
namespace HL
structure Pl where
 most:Int
 lO:List Int
 ins:List Bool
 vs:List Int
 back:List Nat
def Pl.at_ (p:Pl):Option Nat:=match p.back.getLast? with
 | some a=>some a
 | none=>if p.most≤(p.lO.length:Int) then none else some p.lO.length
def Pl.grow (p:Pl):Pl:=match p.back.getLast? with
 | some _=>{ p with back:=p.back.dropLast }
 | none=>{ p with lO:=p.lO ++ [0],ins:=p.ins ++ [false],vs:=p.vs ++ [0] }
def Pl.put (p:Pl) (a:Nat) (v:Int):Pl:={ p with lO:=p.lO.set a (p.lO.getD a 0 + 1),ins:=p.ins.set a true,vs:=p.vs.set a v }
def Pl.take (p:Pl) (a:Nat) (v:Int):Pl:=p.grow.put a v
def Pl.gen (p:Pl) (a:Nat):Int:=p.grow.lO.getD a 0 + 1
def Pl.look (p:Pl) (a g:Int):Int :=
 if a < 0∨(p.lO.length:Int)≤a∨g < 1∨p.lO.getD a.toNat 0 < g then 22
 else if g < p.lO.getD a.toNat 0∨p.ins.getD a.toNat false = false then 23 else 0
def Pl.gK (p:Pl) (a:Nat):Pl:={ p with ins:=p.ins.set a false,back:=p.back ++ [a] }
structure aG8 (p:Pl):Prop where
 li:p.ins.length = p.lO.length
 lv:p.vs.length = p.lO.length
 bk:∀ a∈p.back,a < p.lO.length∧p.ins[a]? = some false
 nd:p.back.Nodup
theorem xI {l:List Nat} {a:Nat} (h:l.getLast? = some a):a∈l:=List.mem_of_getLast? h
theorem aFu {l:List Nat} {a:Nat} (h:l.getLast? = some a):l = l.dropLast ++ [a]:=by
 obtain ⟨ys,rfl⟩:=List.getLast?_eq_some_iff.1 h
 simp
end HL
namespace HL
structure sU (κ:Type) where
 g:Int
 t:Bool
 v:κ
structure PS (κ:Type) where
 most:Int
 l:List (sU κ)
 free:List Nat
namespace PS
variable {κ:Type}
def pl (p:PS κ):Pl:=⟨p.most,p.l.map (·.g),p.l.map (·.t),p.l.map (fun _=>0),p.free⟩
def at_ (p:PS κ):Option Nat:=match p.free.getLast? with
 | some a=>some a
 | none=>if p.most≤(p.l.length:Int) then none else some p.l.length
def grow (p:PS κ) (z:κ):PS κ:=match p.free.getLast? with
 | some _=>{ p with free:=p.free.dropLast }
 | none=>{ p with l:=p.l ++ [⟨0,false,z⟩] }
def gen (p:PS κ) (a:Nat):Int:=match p.l[a]? with
 | some x=>x.g + 1
 | none=>1
def take (p:PS κ) (z:κ) (a:Nat) (v:κ):PS κ:={ p.grow z with l:=(p.grow z).l.set a ⟨p.gen a,true,v⟩ }
def find (p:PS κ) (a g:Int):Option κ:=match (if a < 0 then none else p.l[a.toNat]?) with
 | some x=>if g = x.g∧x.t = true∧1≤g then some x.v else none
 | none=>none
def put (p:PS κ) (a:Nat) (v:κ):PS κ:=match p.l[a]? with
 | some x=>{ p with l:=p.l.set a { x with v:=v } }
 | none=>p
def gK (p:PS κ) (z:κ) (a:Nat):PS κ:=match p.l[a]? with
 | some x=>{ p with l:=p.l.set a { x with t:=false,v:=z },free:=p.free ++ [a] }
 | none=>p
theorem aIn (p:PS κ):p.pl.at_ = p.at_:=by
 unfold Pl.at_ at_ pl
 simp only [List.length_map]
 all_goals (cases p.free.getLast? <;> rfl)
theorem aC0 (p:PS κ) {a:Nat} (h:p.at_ = some a) (hf:∀ a∈p.free,a < p.l.length):p.pl.gen a = p.gen a∧a < (p.pl.grow).lO.length:=by
 unfold Pl.gen gen Pl.grow pl
 unfold at_ at h
 simp only
 cases hl:p.free.getLast? with
 | some x =>
  rw [hl] at h
  simp only [Option.some.injEq] at h
  subst h
  have hx:=hf _ (xI hl)
  simp only [List.getD_eq_getElem?_getD,List.getElem?_map,List.getElem?_eq_getElem hx]
  exact ⟨rfl,by simpa using hx⟩
 | none =>
  rw [hl] at h
  simp only at h
  split at h
  ·cases h
  ·cases h
   simp only [List.getD_eq_getElem?_getD]
   rw [List.getElem?_append_right (by simp),List.getElem?_eq_none (Nat.le_refl _)]
   simp
theorem aF4 (p:PS κ) {a:Nat} (z v:κ) (h:p.at_ = some a) (hf:∀ a∈p.free,a < p.l.length):(p.take z a v).pl = p.pl.take a 0:=by
 obtain ⟨h1,h2⟩:=p.aC0 h hf
 unfold Pl.gen at h1
 unfold Pl.take Pl.put
 rw [h1]
 unfold take pl Pl.grow grow
 cases hl:p.free.getLast? with
 | some x=>simp only [Pl.mk.injEq,List.map_set,true_and,and_true]
 | none=>simp only [Pl.mk.injEq,List.map_set,List.map_append,List.map_cons,List.map_nil,true_and,and_true]
theorem aLd (p:PS κ) (a:Nat) (v:κ):(p.put a v).pl = p.pl:=by
 unfold put
 cases h:p.l[a]? with
 | none=>rfl
 | some x =>
  obtain ⟨hl,hx⟩:=List.getElem?_eq_some_iff.1 h
  unfold pl
  simp only [Pl.mk.injEq,List.map_set,true_and,and_true]
  refine ⟨?_,?_,?_⟩
  ·rw [←hx];exact List.ext_getElem (by simp) fun i h1 h2=>by rw [List.getElem_set];split <;> simp_all
  ·rw [←hx];exact List.ext_getElem (by simp) fun i h1 h2=>by rw [List.getElem_set];split <;> simp_all
  ·exact List.ext_getElem (by simp) fun i h1 h2=>by rw [List.getElem_set];split <;> simp
theorem aDh (p:PS κ) (z:κ) {a:Nat} (ha:a < p.l.length):(p.gK z a).pl = p.pl.gK a:=by
 unfold gK Pl.gK
 rw [List.getElem?_eq_getElem ha]
 unfold pl
 simp only [Pl.mk.injEq,List.map_set,true_and,and_true]
 refine ⟨?_,?_⟩
 ·exact List.ext_getElem (by simp) fun i h1 h2=>by rw [List.getElem_set];split <;> simp_all
 ·exact List.ext_getElem (by simp) fun i h1 h2=>by rw [List.getElem_set];split <;> simp
theorem bK {p:PS κ} {a g:Int} {v:κ} (h:p.find a g = some v):∃ k:Nat,a = (k:Int)∧p.l[k]? = some ⟨g,true,v⟩∧1≤g:=by
 unfold find at h
 split at h
 ·rename_i x hx
  split at h
  ·rename_i hc
   cases h
   by_cases ha:a < 0
   ·rw [if_pos ha] at hx;cases hx
   ·rw [if_neg ha] at hx
    refine ⟨a.toNat,by omega,?_,hc.2.2⟩
    rw [hx]
    obtain ⟨g',t',v'⟩:=x
    obtain ⟨rfl,ht,_⟩:=hc
    simp only at ht
    subst ht;rfl
  ·cases h
 ·cases h
theorem j6 {p:PS κ} {g:Int} {v:κ} {k:Nat} (h:p.l[k]? = some ⟨g,true,v⟩) (hg:1≤g):p.find (k:Int) g = some v:=by
 unfold find
 rw [if_neg (by omega),Int.toNat_natCast,h]
 simp [hg]
theorem p7 {p:PS κ} {a g:Int}:(p.find a g).isSome = true↔p.pl.look a g = 0:=by
 unfold Pl.look pl find
 simp only [List.length_map,List.getD_eq_getElem?_getD,List.getElem?_map]
 by_cases ha:a < 0
 ·rw [if_pos ha,if_pos (.inl ha)];simp
 ·rw [if_neg ha]
  cases h:p.l[a.toNat]? with
  | none =>
   have:=List.getElem?_eq_none_iff.1 h
   rw [if_pos (.inr (.inl (by omega)))];simp
  | some x =>
   have hl:=(List.getElem?_eq_some_iff.1 h).1
   simp only [Option.map_some,Option.getD_some]
   by_cases h1:g = x.g∧x.t = true∧1≤g
   ·obtain ⟨h2,h3,h4⟩:=h1
    rw [if_pos ⟨h2,h3,h4⟩,if_neg (by omega),if_neg (by rintro (h | h);omega;rw [h3] at h;cases h)]
    simp
   ·rw [if_neg h1]
    by_cases h2:a < 0∨(p.l.length:Int)≤a∨g < 1∨x.g < g
    ·rw [if_pos h2];simp
    ·rw [if_neg h2]
     have h3:g < x.g∨x.t = false:=by
      cases hx:x.t with
      | false=>exact .inr rfl
      | true=>exact .inl (by
        have:¬ g = x.g:=fun e=>h1 ⟨e,hx,by omega⟩
        omega)
     rw [if_pos h3];simp
structure Ok (p:PS κ):Prop where
 nd:p.free.Nodup
 fr:∀ a∈p.free,∃ x,p.l[a]? = some x∧x.t = false
theorem Ok.lt {p:PS κ} (h:p.Ok):∀ a∈p.free,a < p.l.length:=fun a ha=>by
 obtain ⟨x,hx,_⟩:=h.fr a ha
 exact (List.getElem?_eq_some_iff.1 hx).1
theorem Ok.nil (m:Int):Ok (⟨m,[],[]⟩:PS κ):=⟨List.nodup_nil,fun a ha=>(by cases ha)⟩
theorem Ok.aDB {p:PS κ} (h:p.Ok) {a:Nat} (ha:p.at_ = some a) (g:Int):p.find (a:Int) g = none:=by
 unfold at_ at ha
 unfold find
 rw [if_neg (by omega),Int.toNat_natCast]
 cases hl:p.free.getLast? with
 | some x =>
  rw [hl] at ha
  simp only [Option.some.injEq] at ha
  subst ha
  obtain ⟨y,hy,ht⟩:=h.fr _ (xI hl)
  rw [hy]
  simp [ht]
 | none =>
  rw [hl] at ha
  simp only at ha
  split at ha
  ·cases ha
  ·cases ha
   rw [List.getElem?_eq_none (Nat.le_refl _)]
theorem aAh {p:PS κ} (h:p.Ok) {a:Nat} (ha:p.at_ = some a) (z v:κ):(p.take z a v).l[a]? = some ⟨p.gen a,true,v⟩∧(∀ b,b≠a→(p.take z a v).l[b]? = p.l[b]?) ∧
  ((p.take z a v).l.length + p.free.length = p.l.length + (p.take z a v).free.length + 1)∧(p.take z a v).most = p.most∧(p.take z a v).l.length≤p.l.length + 1∧(p.l.length≤(p.take z a v).l.length)∧((p.l.length:Int) < p.most∨(p.take z a v).l.length = p.l.length):=by
 unfold take grow
 unfold at_ at ha
 cases hl:p.free.getLast? with
 | some x =>
  rw [hl] at ha
  simp only [Option.some.injEq] at ha
  subst ha
  have hlt:=h.lt _ (xI hl)
  have eT:p.free≠[]:=fun e=>by rw [e] at hl;cases hl
  have:0 < p.free.length:=List.length_pos_iff.2 eT
  simp only [List.length_set,List.length_dropLast]
  refine ⟨List.getElem?_set_self hlt,fun b hb=>List.getElem?_set_ne (fun e=>hb e.symm),by omega,by trivial,by omega,by omega,.inr (by trivial)⟩
 | none =>
  rw [hl] at ha
  have hf:p.free = []:=List.getLast?_eq_none_iff.1 hl
  simp only at ha
  split at ha
  ·cases ha
  ·rename_i hm
   cases ha
   simp only [List.length_set,List.length_append,List.length_singleton]
   refine ⟨List.getElem?_set_self (by simp),fun b hb=>?_,by omega,trivial,by omega,by omega,.inl (by omega)⟩
   rw [List.getElem?_set_ne (fun e=>hb e.symm)]
   by_cases hb2:b < p.l.length
   ·rw [List.getElem?_append_left hb2]
   ·rw [List.getElem?_eq_none (by simp;omega),List.getElem?_eq_none (by omega)]
theorem Ok.take {p:PS κ} (h:p.Ok) {a:Nat} (ha:p.at_ = some a) (z v:κ):(p.take z a v).Ok:=by
 obtain ⟨h1,h2,_⟩:=aAh h ha z v
 have hfree:(p.take z a v).free = p.free.dropLast∧a ∉ p.free.dropLast:=by
  unfold PS.take grow
  unfold at_ at ha
  cases hl:p.free.getLast? with
  | some x =>
   rw [hl] at ha
   simp only [Option.some.injEq] at ha
   subst ha
   refine ⟨rfl,fun hm=>?_⟩
   have hs:=aFu hl
   have hn:=h.nd
   rw [hs] at hn
   exact (List.nodup_append.1 hn).2.2 _ hm x (by simp) rfl
  | none =>
   have hf:p.free = []:=List.getLast?_eq_none_iff.1 hl
   simp only [hf]
   exact ⟨rfl,by simp⟩
 refine ⟨by rw [hfree.1];exact h.nd.sublist (List.dropLast_sublist _),fun b hb=>?_⟩
 rw [hfree.1] at hb
 have eT:b≠a:=fun e=>hfree.2 (e▸hb)
 rw [h2 b eT]
 exact h.fr b ((List.dropLast_sublist _).subset hb)
theorem aAq {p:PS κ} (h:p.Ok) {a:Nat} (ha:p.at_ = some a) (z v:κ) (hg:1≤p.gen a):(p.take z a v).find (a:Int) (p.gen a) = some v∧∀ b g w,p.find b g = some w→(p.take z a v).find b g = some w:=by
 obtain ⟨h1,h2,_⟩:=aAh h ha z v
 refine ⟨j6 h1 hg,fun b g w hw=>?_⟩
 obtain ⟨k,rfl,hk,hg'⟩:=bK hw
 have eT:k≠a:=fun e=>by
  subst e
  rw [h.aDB ha g] at hw;cases hw
 exact j6 (by rw [h2 k eT];exact hk) hg'
theorem wS {p:PS κ} (z:κ) {a:Nat} {x:sU κ} (hx:p.l[a]? = some x):(p.gK z a).l = p.l.set a { x with t:=false,v:=z }∧(p.gK z a).free = p.free ++ [a]∧(p.gK z a).most = p.most:=by
 unfold gK
 rw [hx];exact ⟨rfl,rfl,rfl⟩
theorem Ok.gK {p:PS κ} (h:p.Ok) (z:κ) {a:Nat} {x:sU κ} (hx:p.l[a]? = some x) (ht:x.t = true):(p.gK z a).Ok:=by
 obtain ⟨h1,h2,_⟩:=wS z hx
 have ha:a ∉ p.free:=fun hm=>by
  obtain ⟨y,hy,hy2⟩:=h.fr a hm
  rw [hx] at hy;cases hy
  rw [ht] at hy2;cases hy2
 have hl:=(List.getElem?_eq_some_iff.1 hx).1
 refine ⟨?_,fun b hb=>?_⟩
 ·rw [h2,List.nodup_append]
  exact ⟨h.nd,by simp,fun b hb c hc e=>ha (by rw [←List.mem_singleton.1 hc,←e];exact hb)⟩
 ·rw [h2] at hb
  rw [h1]
  rcases List.mem_append.1 hb with hb | hb
  ·have eT:a≠b:=fun e=>ha (e▸hb)
   rw [List.getElem?_set_ne eT];exact h.fr b hb
  ·rw [List.mem_singleton.1 hb,List.getElem?_set_self hl]
   exact ⟨_,rfl,rfl⟩
theorem xU {p:PS κ} (z:κ) {a:Nat} {x:sU κ} (hx:p.l[a]? = some x):∀ b g w,b≠(a:Int)→p.find b g = some w→(p.gK z a).find b g = some w:=by
 intro b g w hb hw
 obtain ⟨h1,h2,_⟩:=wS z hx
 obtain ⟨k,rfl,hk,hg⟩:=bK hw
 refine j6 ?_ hg
 rw [h1,List.getElem?_set_ne (by omega)];exact hk
theorem vY {p:PS κ} {a:Nat} {x:sU κ} (v:κ) (hx:p.l[a]? = some x):(p.put a v).l = p.l.set a { x with v:=v }∧(p.put a v).free = p.free∧(p.put a v).most = p.most:=by
 unfold put
 rw [hx];exact ⟨rfl,rfl,rfl⟩
theorem Ok.put {p:PS κ} (h:p.Ok) (a:Nat) (v:κ):(p.put a v).Ok:=by
 cases hx:p.l[a]? with
 | none =>
  have:p.put a v = p:=by unfold PS.put;rw [hx]
  rw [this];exact h
 | some x =>
  obtain ⟨h1,h2,_⟩:=vY v hx
  have hl:=(List.getElem?_eq_some_iff.1 hx).1
  refine ⟨by rw [h2];exact h.nd,fun b hb=>?_⟩
  rw [h2] at hb
  rw [h1]
  obtain ⟨y,hy,ht⟩:=h.fr b hb
  by_cases e:a = b
  ·subst e
   rw [hx] at hy;cases hy
   rw [List.getElem?_set_self hl];exact ⟨_,rfl,ht⟩
  ·rw [List.getElem?_set_ne e];exact ⟨y,hy,ht⟩
theorem aBF {p:PS κ} {a g:Int} {w:κ} (v:κ) (hw:p.find a g = some w):(p.put a.toNat v).find a g = some v∧∀ b g' w',b≠a→p.find b g' = some w'→(p.put a.toNat v).find b g' = some w':=by
 obtain ⟨k,rfl,hk,hg⟩:=bK hw
 rw [Int.toNat_natCast]
 obtain ⟨h1,h2,_⟩:=vY v hk
 have hl:=(List.getElem?_eq_some_iff.1 hk).1
 refine ⟨j6 (by rw [h1,List.getElem?_set_self hl]) hg,fun b g' w' hb hw'=>?_⟩
 obtain ⟨k',rfl,hk',hg'⟩:=bK hw'
 exact j6 (by rw [h1,List.getElem?_set_ne (by omega)];exact hk') hg'
theorem aAO {p:PS κ} {a:Nat} {v:κ} {x:sU κ} (h:x∈(p.put a v).l):∃ y∈p.l,x.g = y.g:=by
 cases hx:p.l[a]? with
 | none =>
  have:p.put a v = p:=by unfold PS.put;rw [hx]
  rw [this] at h;exact ⟨x,h,rfl⟩
 | some y =>
  rw [(vY v hx).1] at h
  rcases List.mem_or_eq_of_mem_set h with h | h
  ·exact ⟨x,h,rfl⟩
  ·exact ⟨y,List.mem_of_getElem? hx,by rw [h]⟩
theorem aEr {p:PS κ} {z:κ} {a:Nat} {x:sU κ} (h:x∈(p.gK z a).l):∃ y∈p.l,x.g = y.g:=by
 cases hx:p.l[a]? with
 | none =>
  have:p.gK z a = p:=by unfold PS.gK;rw [hx]
  rw [this] at h;exact ⟨x,h,rfl⟩
 | some y =>
  rw [(wS z hx).1] at h
  rcases List.mem_or_eq_of_mem_set h with h | h
  ·exact ⟨x,h,rfl⟩
  ·exact ⟨y,List.mem_of_getElem? hx,by rw [h]⟩
theorem aCZ {p:PS κ} {tm:Int} (h:∀ x∈p.l,0≤x.g∧x.g≤tm) (h0:0≤tm) (a:Nat):1≤p.gen a∧p.gen a≤tm + 1:=by
 unfold gen
 cases hx:p.l[a]? with
 | none=>simp only;omega
 | some y =>
  have:=h y (List.mem_of_getElem? hx)
  simp only;omega
theorem aDN {p:PS κ} {z v:κ} {a:Nat} {x:sU κ} (h:x∈(p.take z a v).l):x∈p.l∨x.g = p.gen a∨x.g = 0:=by
 unfold take at h
 rcases List.mem_or_eq_of_mem_set h with h | h
 ·unfold grow at h
  split at h
  ·exact .inl h
  ·rcases List.mem_append.1 h with h | h
   ·exact .inl h
   ·rw [List.mem_singleton.1 h];exact .inr (.inr rfl)
 ·rw [h];exact .inr (.inl rfl)
end PS
end HL
set_option maxRecDepth 100000
namespace HL
section
variable {α:Type} {c:α→List Value} {k:Nat}
theorem sT (hc:∀ x,(c x).length = k):∀ l:List α,(l.flatMap c).length = l.length * k
 | []=>by simp
 | x::l=>by rw [List.flatMap_cons,List.length_append,hc,sT hc l,List.length_cons,Nat.succ_mul];omega
theorem aDi (hc:∀ x,(c x).length = k):∀ {l:List α} {i:Nat} {x:α} {f:Nat} {v:Value},l[i]? = some x→(c x)[f]? = some v→(l.flatMap c)[i * k + f]? = some v
 | [],i,x,f,v,h,_=>by simp at h
 | y::l,0,x,f,v,h,hf=>by
  simp at h;subst h
  have hlt:=(List.getElem?_eq_some_iff.1 hf).1
  rw [List.flatMap_cons,Nat.zero_mul,Nat.zero_add,List.getElem?_append_left hlt];exact hf
 | y::l,i + 1,x,f,v,h,hf=>by
  rw [List.flatMap_cons,List.getElem?_append_right (by rw [hc,Nat.succ_mul];omega),hc,show (i + 1) * k + f - k = i * k + f from by rw [Nat.succ_mul];omega]
  exact aDi hc (by simpa using h) hf
theorem aEe (hc:∀ x,(c x).length = k):∀ {l:List α} {i:Nat} {x x':α} {f:Nat} {v:Value},l[i]? = some x→f < k→(c x).set f v = c x'→(l.flatMap c).set (i * k + f) v = (l.set i x').flatMap c
 | [],i,x,x',f,v,h,_,_=>by simp at h
 | y::l,0,x,x',f,v,h,hk,hf=>by
  simp at h;subst h
  rw [List.flatMap_cons,Nat.zero_mul,Nat.zero_add,List.set_append_left _ _ (by rw [hc];exact hk),hf,List.set_cons_zero,List.flatMap_cons]
 | y::l,i + 1,x,x',f,v,h,hk,hf=>by
  rw [List.flatMap_cons,List.set_append_right _ _ (by rw [hc,Nat.succ_mul];omega),hc,show (i + 1) * k + f - k = i * k + f from by rw [Nat.succ_mul];omega,List.set_cons_succ,List.flatMap_cons]
  rw [aEe hc (by simpa using h) hk hf]
theorem aI3 (hc:∀ x,∀ v∈c x,bS v = true) (l:List α):∀ v∈l.flatMap c,bS v = true:=fun v hv=>by
 obtain ⟨x,_,hx⟩:=List.mem_flatMap.1 hv
 exact hc x v hx
end
section
variable {w0:World} {F M:Mem} {α:Type} {c:α→List Value} {k:Nat}
theorem aA.nR (hc:∀ x,(c x).length = k) (hk:0 < k) {s:SV} {l:List α} {Q:cI} (h:aA w0 F M (star (dX k s (l.flatMap c)) Q)):s.n = l.length:=by
 obtain ⟨F',h1,_⟩:=h.slk
 have:=h1.len
 rw [sT hc] at this
 exact Nat.eq_of_mul_eq_mul_right hk this.symm
theorem aA.aKq (hc:∀ x,(c x).length = k) (hk:0 < k) {s:SV} {l:List α} {Q:cI} (h:aA w0 F M (star (dX k s (l.flatMap c)) Q)):l.length≤s.c:=by
 obtain ⟨F',h1,_⟩:=h.slk
 rw [←h.nR hc hk];exact h1.cap hk
theorem aA.adR (hc:∀ x,(c x).length = k) (hk:0 < k) {s:SV} {l:List α} {Q:cI} (h:aA w0 F M (star (dX k s (l.flatMap c)) Q)) {i:Nat} {x:α} (hx:l[i]? = some x) :
  ∃ blk,s.a = some ⟨blk,0,none⟩∧s.n = l.length∧i < s.n∧∀ f v,(c x)[f]? = some v→rd w0 M ⟨blk,i * k + f,none⟩ = some v:=by
 have hn:=h.nR hc hk
 have hi:=(List.getElem?_eq_some_iff.1 hx).1
 obtain ⟨b,rest,e,ha,h1,h2,h3⟩:=dX.row h (by omega)
 refine ⟨b,ha,hn,by omega,fun f v hf=>?_⟩
 have h4:=aDi hc hx hf
 rw [aN h3.bC,List.getElem?_append_left (List.getElem?_eq_some_iff.1 h4).1]
 exact h4
theorem aA.stR {P:Program} (hc:∀ x,(c x).length = k) (hk:0 < k) {t:TypeId} (ht:iF P t = true) {s:SV} {l:List α} {Q:cI} (h:aA w0 F M (star (dX k s (l.flatMap c)) Q)) {i:Nat} {x x':α} (hx:l[i]? = some x) {f:Nat} (hf:f < k) {v:Value} (hv:bS v = true) (hcv:v.cells = #[v]) (he:(c x).set f v = c x')
  {blk:Nat} (ha:s.a = some ⟨blk,0,none⟩) {K:Mem→Prop} (hK:∀ M',aA w0 F M' (star (dX k s ((l.set i x').flatMap c)) Q)→K M'):(aJ P w0).st t ⟨blk,i * k + f,none⟩ v (fun M'=>K M') M:=by
 have hn:=h.nR hc hk
 have hi:=(List.getElem?_eq_some_iff.1 hx).1
 have:=stK (P:=P) ht h (i:=(i:Int)) i rfl (by omega) hf hv hcv (K:=K) fun M' h'=>hK M' (by rw [aEe hc hx hf he] at h';exact h')
 rw [ha] at this
 simp only [aT,Int.toNat_natCast,add_eq,Nat.zero_add] at this
 exact this.2
end
end HL
namespace HL
section
variable {P:Program} {w0:World} {M F:Mem} {α:Type}
theorem xJ {β:Type} {s:Sem β} {a:β} (h:dT P s = some a):fD P w0 M s = some a:=by
 induction s with
 | pure x=>exact h
 | program k ih=>exact ih P h
 | _=>simp [dT] at h
theorem aBA {r:Nat} {o:Obj} (hr:w0.heap.size≤r) (hm:M r = some (.obj o)) (hp:Obj.plain o = true):fD P w0 M (getObj r) = some o:=by
 have:aDT w0 M r = some o:=by
  unfold aDT
  rw [if_neg (by omega),hm]
  simp only [hp,if_true]
 unfold getObj
 simp only [fD,this]
theorem aA.aLJ {A:cI} {r:Nat} {o:Obj} (h:aA w0 F M A) (hm:M r = some (.obj o)) (hf:F r = none):aA w0 (F.set r (.obj o)) M A∧Mem.le F (F.set r (.obj o)):=by
 obtain ⟨q,h1,h2⟩:=h
 refine ⟨⟨q,h1,h2.nd,fun x hx=>?_,fun y o' hy=>?_⟩,Mem.fC _ hf⟩
 ·obtain ⟨g1,g2,g3⟩:=h2.at_ x hx
  have eT:x.1≠r:=fun e=>by rw [e,hm] at g3;cases g3
  exact ⟨g1,by rw [Mem.nD _ _ eT];exact g2,g3⟩
 ·by_cases hy':y = r
  ·subst hy'
   rw [Mem.mF] at hy;cases hy;exact hm
  ·rw [Mem.nD _ _ hy'] at hy
   exact h2.fr y o' hy
theorem aA.aJ3 {A:cI} {r:Nat} {o o':Obj} (h:aA w0 F M A) (hm:M r = some (.obj o)) (hf:F r = none):aA w0 F (M.set r (.obj o')) A:=by
 obtain ⟨q,h1,h2⟩:=h
 refine ⟨q,h1,h2.nd,fun x hx=>?_,fun y o2 hy=>?_⟩
 ·obtain ⟨g1,g2,g3⟩:=h2.at_ x hx
  have eT:x.1≠r:=fun e=>by rw [e,hm] at g3;cases g3
  exact ⟨g1,g2,by rw [Mem.nD _ _ eT];exact g3⟩
 ·have eT:y≠r:=fun e=>by rw [e,hf] at hy;cases hy
  rw [Mem.nD _ _ eT]
  exact h2.fr y o2 hy
theorem aA.aJL {A:cI} {r:Nat} {o:Obj} (h:aA w0 F M A) (hm:M r = none):aA w0 F (M.set r (.obj o)) A:=h.le (Mem.fC _ hm)
end
end HL
namespace HL
section
variable {w0:World} {F M:Mem} {R:VP}
theorem aA.fY {P:cI} {b:Nat} {cs:List Value} {e:TypeId} (h:aA w0 F M (star (bA b cs e) P)):∃ F',Mem.le F F'∧cS w0 F' b cs e∧aA w0 F' M P:=by
 obtain ⟨r,⟨r1,r2,rfl,h1,h2⟩,h3⟩:=h
 have h4:=h3.perm List.perm_append_comm
 have h5:=h4.aside.1
 have hF:∀ x∈r1,F x.1 = Option.none:=fun x hx=>(h3.at_ x (List.mem_append_left _ hx)).2.1
 have h1':r1 = [(b,cs,e)]:=h1
 subst h1'
 refine ⟨ext F [(b,cs,e)],yN hF,⟨(h3.at_ (b,cs,e) (by simp)).1,?_⟩,⟨r2,h2,h5⟩⟩
 unfold ext
 simp
theorem aA.fO {P:cI} {F':Mem} (h:aA w0 F' M P) (hl:Mem.le F F'):aA w0 F M P:=by
 obtain ⟨r,h1,h2⟩:=h
 exact ⟨r,h1,⟨h2.nd,fun x hx=>by obtain ⟨a1,a2,a3⟩:=h2.at_ x hx;exact ⟨a1,le_none hl a2,a3⟩,Mem.le_trans hl h2.fr⟩⟩
theorem vK {P:Program} {t ty e:TypeId} {z:Value} {k:Nat} (ht:P.underlying t = some (.slice e)) (he:jU P e z k) {s x:SV} {l news:List Value} {Q:cI} (h:aA w0 F M (star (dX k s l) Q)) (hn:news.length = x.n * k) (hcn:gW w0 M x.a news) (hnn:x.a = none→x.n = 0) (hone:∀ v∈news,bS v = true) (hk:0 < k) (hb:s.n + x.n≤137438953472)
  {K:VP} (hK:∀ M' s',aA w0 F M' (star (dX k s' (l ++ news)) Q)→K s'.v M'):(aJ P w0).app #[t,t] ty [SV.v s,SV.v x] K M:=by
 obtain ⟨F',h1,h2,h3⟩:=aA.slk h
 exact aAM ht he h2 h1 hn hcn hnn hone hk hb fun M' s' l1 l2 _=>hK M' s' (h3 M' s' _ l2 l1)
theorem dR {k:Nat} {s:SV} {l:List Value} {Q:cI} (h:aA w0 F M (star (dX k s l) Q)):gW w0 M s.a l∧l.length = s.n * k∧(s.a = none→s.n = 0):=by
 obtain ⟨F',h1,_⟩:=aA.slk h
 exact ⟨h1.cells,h1.len,fun hh=>(h1.none hh).1⟩
end
end HL
namespace HL
section
variable {w0:World} {M M0 F:Mem} {R:VP}
noncomputable def aHP (n:Nat):Bool:=match (aJ PP default).idx 9 (Value.string ⟨(([0,1,2,2,3,3,3,3,4,4,4,4,4,4,4,4,5,5,5,5,5,5,5,5,5,5,5,5,5,5,5,5,6,6,6,6,6,6,6,6,6,6,6,6,6,6,6,6,6,6,6,6,6,6,6,6,6,6,6,6,6,6,6,6,7,7,7,7,7,7,7,7,7,7,7,7,7,7,7,7,7,7,7,7,7,7,7,7,7,7,7,7,7,7,7,7,7,7,7,7,7,7,7,7,7,7,7,7,7,7,7,7,7,7,7,7,7,7,7,7,7,7,7,7,7,7,7,7,8,8,8,8,8,8,8,8,8,8,8,8,8,8,8,8,8,8,8,8,8,8,8,8,8,8,8,8,8,8,8,8,8,8,8,8,8,8,8,8,8,8,8,8,8,8,8,8,8,8,8,8,8,8,8,8,8,8,8,8,8,8,8,8,8,8,8,8,8,8,8,8,8,8,8,8,8,8,8,8,8,8,8,8,8,8,8,8,8,8,8,8,8,8,8,8,8,8,8,8,8,8,8,8,8,8,8,8,8,8,8,8,8,8,8,8,8,8,8,8,8,8,8,8,8,8,8,8]:List UInt8)).toArray⟩) (.int .u8 (n:Int)) with
 | some (.int .u8 v)=>v == ((bl n:Nat):Int)
 | _=>false
theorem aFo:(List.range 256).all aHP = true:=by kernel_rfl
theorem aHw {x:Nat} (hx:x < 2 ^ 64) (h:R (.int .i64 (bl x:Int)) M):C PP w0 Id.aE #[.int .u64 (x:Int)] R M:=by
 apply aE.go
 intro aB H
 unfold aE.T
 have three:∀ (y n:Nat),y < 256→n≤56→bl x = bl y + n→aE.J3 aB (y:Int) (n:Int) M:=by
  intro y n hy hn hb
  refine Eq.mpr (H.J3 ..) ?_
  unfold aE.J3.T
  have hw:IntKind.wrap .u8 (y:Int) = (y:Int):=by unfold IntKind.wrap;simp [IntKind.bits,IntKind.signed];omega
  rw [hw]
  have ht:=List.all_eq_true.1 aFo y (List.mem_range.2 hy)
  unfold aHP at ht
  split at ht
  ·rename_i v hv
   have hv':(aJ PP w0).idx 9 (Value.string ⟨(([0,1,2,2,3,3,3,3,4,4,4,4,4,4,4,4,5,5,5,5,5,5,5,5,5,5,5,5,5,5,5,5,6,6,6,6,6,6,6,6,6,6,6,6,6,6,6,6,6,6,6,6,6,6,6,6,6,6,6,6,6,6,6,6,7,7,7,7,7,7,7,7,7,7,7,7,7,7,7,7,7,7,7,7,7,7,7,7,7,7,7,7,7,7,7,7,7,7,7,7,7,7,7,7,7,7,7,7,7,7,7,7,7,7,7,7,7,7,7,7,7,7,7,7,7,7,7,7,8,8,8,8,8,8,8,8,8,8,8,8,8,8,8,8,8,8,8,8,8,8,8,8,8,8,8,8,8,8,8,8,8,8,8,8,8,8,8,8,8,8,8,8,8,8,8,8,8,8,8,8,8,8,8,8,8,8,8,8,8,8,8,8,8,8,8,8,8,8,8,8,8,8,8,8,8,8,8,8,8,8,8,8,8,8,8,8,8,8,8,8,8,8,8,8,8,8,8,8,8,8,8,8,8,8,8,8,8,8,8,8,8,8,8,8,8,8,8,8,8,8,8,8,8,8,8,8]:List UInt8)).toArray⟩) (.int .u8 (y:Int)) = some (.int .u8 v):=hv
   rw [hv',aC]
   have hv2:v = ((bl y:Nat):Int):=by simpa using ht
   have hbl:bl y≤8:=aFx (k:=8) (by omega)
   rw [aL,hv2,aQ (n:=((bl y:Nat):Int)) (by omega),aQ (by omega),show (n:Int) + (bl y:Int) = (bl x:Int) from by omega]
   exact h
  ·cases ht
 have two:∀ (y n:Nat),y < 65536→n≤48→bl x = bl y + n→aE.J2 aB (y:Int) (n:Int) M:=by
  intro y n hy hn hb
  refine Eq.mpr (H.J2 ..) ?_
  unfold aE.J2.T
  rw [cR]
  split
  ·rename_i hge
   refine ⟨by omega,?_⟩
   have e:Int.fdiv (y:Int) (2 ^ (min (8:Int).toNat (IntKind.bits .u64))) = ((y / 2 ^ 8:Nat):Int):=by
    rw [Int.fdiv_eq_ediv_of_nonneg _ (by decide)];rfl
   rw [e,aQ (by omega)]
   exact three (y / 2 ^ 8) (n + 8) (by omega) (by omega) (by rw [hb,aE8 (x:=y) (k:=8) (by omega)];omega)
  ·exact three y n (by omega) (by omega) hb
 have one:∀ (y n:Nat),y < 4294967296→n≤32→bl x = bl y + n→aE.J1 aB (y:Int) (n:Int) M:=by
  intro y n hy hn hb
  refine Eq.mpr (H.J1 ..) ?_
  unfold aE.J1.T
  rw [cR]
  split
  ·rename_i hge
   refine ⟨by omega,?_⟩
   have e:Int.fdiv (y:Int) (2 ^ (min (16:Int).toNat (IntKind.bits .u64))) = ((y / 2 ^ 16:Nat):Int):=by
    rw [Int.fdiv_eq_ediv_of_nonneg _ (by decide)];rfl
   rw [e,aQ (by omega)]
   exact two (y / 2 ^ 16) (n + 16) (by omega) (by omega) (by rw [hb,aE8 (x:=y) (k:=16) (by omega)];omega)
  ·exact two y n (by omega) (by omega) hb
 rw [cR]
 split
 ·rename_i hge
  refine ⟨by omega,?_⟩
  have e:Int.fdiv (x:Int) (2 ^ (min (32:Int).toNat (IntKind.bits .u64))) = ((x / 2 ^ 32:Nat):Int):=by
   rw [Int.fdiv_eq_ediv_of_nonneg _ (by decide)];rfl
  rw [e]
  exact one (x / 2 ^ 32) 32 (by omega) (by omega) (aE8 (x:=x) (k:=32) (by omega))
 ·exact one x 0 (by omega) (by omega) rfl
theorem aJV {n:Int} (hn:gC n) (h:R (.int .i64 (bl n.toNat:Int)) M):C PP w0 Id.jF #[.int .i64 n] R M:=by
 apply jF.go
 unfold jF.T aH
 have e1:(if n > 0 then n else 0) = ((n.toNat:Nat):Int):=by split <;> omega
 unfold gC at hn
 have e2:u64 ((n.toNat:Nat):Int) = ((n.toNat:Nat):Int):=by unfold u64 IntKind.wrap;simp [IntKind.bits,IntKind.signed];omega
 rw [e1,e2]
 show C PP w0 Id.mO _ _ M
 apply mO.go
 unfold mO.T aH
 refine aHw (by omega) ?_
 simp only [go_sem]
 exact h
theorem aIk {a b n:Int} (ha:gC a) (hb:gC b) (hn:gC n) (h:R (.int .i64 (aE9 a b (bl n.toNat))) M):C PP w0 Id.cE #[.int .i64 a,.int .i64 b,.int .i64 n] R M:=by
 apply cE.go
 intro aB H
 unfold cE.T aH
 refine aJV hn ?_
 have hbl:bl n.toNat≤64:=aFx (by unfold gC at hn;omega)
 simp only [go_sem]
 have key:∀ (k i:Nat) (a:Int),bl n.toNat < i + k→i≤bl n.toNat→gC a→R (.int .i64 (aE9 a b (bl n.toNat - i))) M→cE.L1 aB k a b ((bl n.toNat:Nat):Int) (i:Int) M:=by
  intro k
  induction k with
  | zero=>intro i a h1 h2;omega
  | succ k ih =>
   intro i a h1 h2 ha hR
   refine Eq.mpr (H.L1 ..) ?_
   unfold cE.L1.T aH
   rw [cR]
   split
   ·refine vR ha hb ?_
    rw [aL,aQ (by omega)]
    refine ih (i + 1) (kD a b) (by omega) (by omega) aC1 ?_
    rw [show bl n.toNat - i = (bl n.toNat - (i + 1)) + 1 from by omega] at hR
    exact hR
   ·rw [show bl n.toNat - i = 0 from by omega] at hR
    exact hR
 exact ⟨bl n.toNat + 1,key _ 0 a (by omega) (by omega) ha h⟩
end
end HL
namespace HL
def tQ (k:Int):Prop:=1≤k∧k≤3
instance (k:Int):Decidable (tQ k):=by unfold tQ;infer_instance
section
variable {w0:World} {M M0 F:Mem} {R:VP}
theorem aBl {k:Int} (h:R (.bool (decide (tQ k))) M):C PP w0 Id.jK #[.int .i64 k] R M:=by
 apply jK.go
 unfold jK.T aH
 rw [cR]
 split
 ·rw [show decide (tQ k) = decide (k≤3) from by rw [decide_eq_decide];unfold tQ;omega] at h;exact h
 ·rw [decide_eq_false (by unfold tQ;omega)] at h;exact h
theorem aHa {a b:Int} {n:Nat} (ha:0≤a) (hb:0≤b) (ha1:a≤1000000) (hb1:b≤1000000) (hn:n≤100):aE9 a b n = a + b * n:=by
 refine aBq hb n a ha ?_
 have:b * (n:Int)≤1000000 * 100:=Int.mul_le_mul hb1 (by omega) (by omega) (by omega)
 omega
theorem aGl {k n:Int} (hk:tQ k) (h1:1≤n) (h2:n≤4096) (h:R (.tuple #[.int .i64 (2000 + 1600 * (bl (n.toNat + 1):Int)),.bool true]) M):C PP w0 Id.gP #[.int .i64 k,.int .i64 n] R M:=by
 apply gP.go
 unfold gP.T aH
 refine aBl ?_
 rw [bU,tN,cR,if_pos hk,cR,if_neg (by omega),cR,if_neg (by omega),aQ (by omega)]
 refine aIk (by unfold gC;omega) (by unfold gC;omega) (by unfold gC;omega) ?_
 rw [aL,aHa (by omega) (by omega) (by omega) (by omega) (aFx (Nat.lt_of_lt_of_le (show (n + 1).toNat < 2 ^ 31 by omega) (Nat.pow_le_pow_right (by decide) (by decide)))),show (n + 1).toNat = n.toNat + 1 from by omega]
 exact h
end
end HL
namespace HL
abbrev tPl:TypeId:=159
def vI (l:List Int):List Value:=l.map (Value.int .i64)
def vB (l:List Bool):List Value:=l.map Value.bool
def vN (l:List Nat):List Value:=l.map fun (n:Nat)=>Value.int .i64 (n:Int)
theorem aIT (l:List Int):∀ v∈vI l,bS v = true:=fun v hv=>by
 obtain ⟨x,_,rfl⟩:=List.mem_map.1 hv;rfl
theorem aLN (l:List Bool):∀ v∈vB l,bS v = true:=fun v hv=>by
 obtain ⟨x,_,rfl⟩:=List.mem_map.1 hv;rfl
theorem aJh (l:List Nat):∀ v∈vN l,bS v = true:=fun v hv=>by
 obtain ⟨x,_,rfl⟩:=List.mem_map.1 hv;rfl
section
variable {w0:World} {F0 F M:Mem} {R:VP}
structure Fz (w0:World) (F:Mem) (x:SV) (v:Value):Prop where
 n:x.n = 1
 a:x.a≠none
 c:∀ M2,Mem.le F M2→gW w0 M2 x.a [v]
theorem aLz {t e:TypeId} {z:Value} (ht:PP.underlying t = some (.slice e)) (he:jU PP e z 1) {v:Value} (hv:bS v = true) (hc:Instr.fill (fun k=>some (k * 1,1)) ((Array.range (1 * 1)).map (z.cells[· % z.cells.size]!)) [(0,v)] = some #[v])
  {P:cI} (h:aA w0 F M P) {K:VP} (hK:∀ M' F' x,Mem.le F F'→aA w0 F' M' P→Fz w0 F' x v→K (SV.v x) M'):(aJ PP w0).bsl t 1 [(0,v)] K M:=by
 refine rN (n:=1) (cells:=#[v]) ht he (by decide) hc fun b hb hw=>?_
 have h1:=aA.new h hb hw (#[v]:Array Value).toList e
 obtain ⟨F3,hle3,hown3,hW3⟩:=aA.fY h1
 exact hK _ F3 ⟨some ⟨b,0,none⟩,1,1⟩ hle3 hW3 ⟨rfl,by simp,fun M2 h2=>gW.own (hown3.le h2) fun j v hj=>by rw [Nat.zero_add];exact hj⟩
def PX (w0:World) (F0 F M:Mem) (p:Nat) (mo:Int) (hG hI hV hB sG sI sV sB:SV) (g:List Int) (i:List Bool) (v:List Int) (b:List Nat) (Q:cI):Prop :=
 Mem.le F0 F∧aA w0 F M (star (bA p [.int .i64 mo,SV.v hG,SV.v hI,SV.v hV,SV.v hB] tPl) (star (dX 1 sG (vI g)) (star (dX 1 sI (vB i)) (star (dX 1 sV (vI v)) (star (dX 1 sB (vN b)) Q)))))
section
variable {p:Nat} {mo:Int} {hG hI hV hB sG sI sV sB:SV} {g:List Int} {i:List Bool} {v:List Int} {b:List Nat} {Q:cI}
theorem PX.ldG (h:PX w0 F0 F M p mo hG hI hV hB sG sI sV sB g i v b Q):(aJ PP w0).ld 53 ⟨p,1,none⟩ M = some (SV.v hG):=by rw [aR W.c53];exact aN (o:=1) h.2.bC
theorem PX.ldI (h:PX w0 F0 F M p mo hG hI hV hB sG sI sV sB g i v b Q):(aJ PP w0).ld 157 ⟨p,2,none⟩ M = some (SV.v hI):=by rw [aR W.aHE];exact aN (o:=2) h.2.bC
theorem vD {k:Nat} {s:SV} {l:List Value} {Q:cI} (h:aA w0 F M (star (dX 1 s l) Q)):s.n = l.length:=by
 have:=(dR h).2.1
 omega
theorem PX.nG (h:PX w0 F0 F M p mo hG hI hV hB sG sI sV sB g i v b Q):sG.n = g.length:=by have:=vD (k:=1) h.2.right;rw [this];simp [vI]
theorem PX.nI (h:PX w0 F0 F M p mo hG hI hV hB sG sI sV sB g i v b Q):sI.n = i.length:=by have:=vD (k:=1) h.2.right.right;rw [this];simp [vB]
theorem PX.nV (h:PX w0 F0 F M p mo hG hI hV hB sG sI sV sB g i v b Q):sV.n = v.length:=by have:=vD (k:=1) h.2.right.right.right;rw [this];simp [vI]
theorem PX.nB (h:PX w0 F0 F M p mo hG hI hV hB sG sI sV sB g i v b Q):sB.n = b.length:=by have:=vD (k:=1) h.2.right.right.right.right;rw [this];simp [vN]
theorem slG {s:SV} {l:List Value} {Q:cI} (h:aA w0 F M (star (dX 1 s l) Q)) {t:TypeId} (ht:iF PP t = true) {x:Int} (j:Nat) (e:x = (j:Int)) {v:Value} (hv:l[j]? = some v) {K:Value→Prop} (hK:K v) :
  nc s.a fun a=>(0≤x∧x < ((s.n:Nat):Int))∧ob ((aJ PP w0).ld t (a.add (x.toNat * 1)) M) fun v=>K v:=by
 simp only [aR ht]
 exact rdv (dR h).1 (vD (k:=1) h) j e hv hK
theorem PX.bI (h:PX w0 F0 F M p mo hG hI hV hB sG sI sV sB g i v b Q) {x:Int} {K:VP} (hK:∀ M' F' y,Mem.le F F'→PX w0 F0 F' M' p mo hG hI hV hB sG sI sV sB g i v b Q→Fz w0 F' y (.int .i64 x)→K (SV.v y) M'):(aJ PP w0).bsl 53 1 [(0,.int .i64 x)] K M :=
 aLz Tryz.underlying53 W.e3 rfl (by kernel_rfl) h.2 fun M' F' y l1 h1 f1=>hK M' F' y l1 ⟨Mem.le_trans h.1 l1,h1⟩ f1
theorem PX.bB (h:PX w0 F0 F M p mo hG hI hV hB sG sI sV sB g i v b Q) {x:Bool} {K:VP} (hK:∀ M' F' y,Mem.le F F'→PX w0 F0 F' M' p mo hG hI hV hB sG sI sV sB g i v b Q→Fz w0 F' y (.bool x)→K (SV.v y) M'):(aJ PP w0).bsl 157 1 [(0,.bool x)] K M :=
 aLz Tryz.underlying157 W.e4 rfl (by kernel_rfl) h.2 fun M' F' y l1 h1 f1=>hK M' F' y l1 ⟨Mem.le_trans h.1 l1,h1⟩ f1
theorem PX.bJ (h:PX w0 F0 F M p mo hG hI hV hB sG sI sV sB g i v b Q) {x:Int} {K:VP} (hK:∀ M' F' y,Mem.le F F'→PX w0 F0 F' M' p mo hG hI hV hB sG sI sV sB g i v b Q→Fz w0 F' y (.int .i64 x)→K (SV.v y) M'):(aJ PP w0).bsl 59 1 [(0,.int .i64 x)] K M :=
 aLz Tryz.underlying59 W.e2 rfl (by kernel_rfl) h.2 fun M' F' y l1 h1 f1=>hK M' F' y l1 ⟨Mem.le_trans h.1 l1,h1⟩ f1
theorem PX.aG {y:SV} {x:Int} {G:Mem} (hy:Fz w0 G y (.int .i64 x)) (hl:Mem.le G F) (h:PX w0 F0 F M p mo hG hI hV hB sG sI sV sB g i v b Q) (hb:g.length≤100000) {K:VP} (hK:∀ M' s',PX w0 F0 F M' p mo hG hI hV hB s' sI sV sB (g ++ [x]) i v b Q→K (SV.v s') M') :
  (aJ PP w0).app #[53,53] 53 [SV.v sG,SV.v y] K M:=by
 obtain ⟨F1,k1,l1,k2⟩:=h.2.last
 have hn:=h.nG
 refine vK Tryz.underlying53 W.e3 k1 (news:=[.int .i64 x]) (by rw [hy.n];rfl) (hy.c M (Mem.le_trans hl h.2.fr)) (fun e=>absurd e hy.a) (aIT [x]) (by decide) (by rw [hy.n];omega) fun M' s' h'=>?_
 refine hK M' s' ⟨h.1,?_⟩
 have:=k2 _ _ h'
 rw [show vI g ++ [Value.int .i64 x] = vI (g ++ [x]) from by simp [vI]] at this
 exact this
theorem PX.aI {y:SV} {x:Bool} {G:Mem} (hy:Fz w0 G y (.bool x)) (hl:Mem.le G F) (h:PX w0 F0 F M p mo hG hI hV hB sG sI sV sB g i v b Q) (hb:i.length≤100000) {K:VP} (hK:∀ M' s',PX w0 F0 F M' p mo hG hI hV hB sG s' sV sB g (i ++ [x]) v b Q→K (SV.v s') M') :
  (aJ PP w0).app #[157,157] 157 [SV.v sI,SV.v y] K M:=by
 obtain ⟨F1,k1,l1,k2⟩:=h.2.last
 obtain ⟨F2,k3,l2,k4⟩:=k1.last
 have hn:=h.nI
 refine vK Tryz.underlying157 W.e4 k3 (news:=[.bool x]) (by rw [hy.n];rfl) (hy.c M (Mem.le_trans hl h.2.fr)) (fun e=>absurd e hy.a) (aLN [x]) (by decide) (by rw [hy.n];omega) fun M' s' h'=>?_
 refine hK M' s' ⟨h.1,?_⟩
 have:=k2 _ _ (k4 _ _ h')
 rw [show vB i ++ [Value.bool x] = vB (i ++ [x]) from by simp [vB]] at this
 exact this
theorem PX.aV {y:SV} {x:Int} {G:Mem} (hy:Fz w0 G y (.int .i64 x)) (hl:Mem.le G F) (h:PX w0 F0 F M p mo hG hI hV hB sG sI sV sB g i v b Q) (hb:v.length≤100000) {K:VP} (hK:∀ M' s',PX w0 F0 F M' p mo hG hI hV hB sG sI s' sB g i (v ++ [x]) b Q→K (SV.v s') M') :
  (aJ PP w0).app #[59,59] 59 [SV.v sV,SV.v y] K M:=by
 obtain ⟨F1,k1,l1,k2⟩:=h.2.last
 obtain ⟨F2,k3,l2,k4⟩:=k1.last
 obtain ⟨F3,k5,l3,k6⟩:=k3.last
 have hn:=h.nV
 refine vK Tryz.underlying59 W.e2 k5 (news:=[.int .i64 x]) (by rw [hy.n];rfl) (hy.c M (Mem.le_trans hl h.2.fr)) (fun e=>absurd e hy.a) (aIT [x]) (by decide) (by rw [hy.n];omega) fun M' s' h'=>?_
 refine hK M' s' ⟨h.1,?_⟩
 have:=k2 _ _ (k4 _ _ (k6 _ _ h'))
 rw [show vI v ++ [Value.int .i64 x] = vI (v ++ [x]) from by simp [vI]] at this
 exact this
theorem PX.wG {s:SV} (h:PX w0 F0 F M p mo hG hI hV hB sG sI sV sB g i v b Q) {K:Mem→Prop} (hK:∀ M',PX w0 F0 F M' p mo s hI hV hB sG sI sV sB g i v b Q→K M'):(aJ PP w0).st 53 ⟨p,1,none⟩ (SV.v s) (fun M'=>K M') M:=by
 refine gO W.c53 h.2.bC (by simp) rfl rfl (hK _ ⟨h.1,?_⟩)
 exact h.2.lJ
theorem PX.wI {s:SV} (h:PX w0 F0 F M p mo hG hI hV hB sG sI sV sB g i v b Q) {K:Mem→Prop} (hK:∀ M',PX w0 F0 F M' p mo hG s hV hB sG sI sV sB g i v b Q→K M'):(aJ PP w0).st 157 ⟨p,2,none⟩ (SV.v s) (fun M'=>K M') M:=by
 refine gO W.aHE h.2.bC (by simp) rfl rfl (hK _ ⟨h.1,?_⟩)
 exact h.2.lJ
theorem PX.wV {s:SV} (h:PX w0 F0 F M p mo hG hI hV hB sG sI sV sB g i v b Q) {K:Mem→Prop} (hK:∀ M',PX w0 F0 F M' p mo hG hI s hB sG sI sV sB g i v b Q→K M'):(aJ PP w0).st 59 ⟨p,3,none⟩ (SV.v s) (fun M'=>K M') M:=by
 refine gO W.c59 h.2.bC (by simp) rfl rfl (hK _ ⟨h.1,?_⟩)
 exact h.2.lJ
theorem PX.wB {s:SV} (h:PX w0 F0 F M p mo hG hI hV hB sG sI sV sB g i v b Q) {K:Mem→Prop} (hK:∀ M',PX w0 F0 F M' p mo hG hI hV s sG sI sV sB g i v b Q→K M'):(aJ PP w0).st 53 ⟨p,4,none⟩ (SV.v s) (fun M'=>K M') M:=by
 refine gO W.c53 h.2.bC (by simp) rfl rfl (hK _ ⟨h.1,?_⟩)
 exact h.2.lJ
end
def lU (p:Nat) (l:Pl):cI:=fun r=>∃ sG sI sV sB:SV,star (bA p [.int .i64 l.most,SV.v sG,SV.v sI,SV.v sV,SV.v sB] tPl) (star (dX 1 sG (vI l.lO)) (star (dX 1 sI (vB l.ins)) (star (dX 1 sV (vI l.vs)) (dX 1 sB (vN l.back))))) r
section
variable {p:Nat} {l:Pl} {Q:cI}
theorem lU.open_ (h:aA w0 F M (star (lU p l) Q)):∃ sG sI sV sB:SV,PX w0 F F M p l.most sG sI sV sB sG sI sV sB l.lO l.ins l.vs l.back Q:=by
 obtain ⟨r,⟨r1,r2,rfl,⟨sG,sI,sV,sB,r3,r4,rfl,a1,r5,r6,rfl,a2,r7,r8,rfl,a3,r9,r10,rfl,a4,a5⟩,a6⟩,a7⟩:=h
 exact ⟨sG,sI,sV,sB,Mem.le_refl _,_,⟨r3,r5 ++ (r7 ++ (r9 ++ (r10 ++ r2))),by simp,a1,r5,_,rfl,a2,r7,_,rfl,a3,r9,_,rfl,a4,r10,_,rfl,a5,a6⟩,a7⟩
theorem PX.close {mo:Int} {sG sI sV sB:SV} {g:List Int} {i:List Bool} {v:List Int} {b:List Nat} (h:PX w0 F0 F M p mo sG sI sV sB sG sI sV sB g i v b Q):aA w0 F0 M (star (lU p ⟨mo,g,i,v,b⟩) Q):=by
 refine aA.fO ?_ h.1
 obtain ⟨r,⟨r3,r4,rfl,a1,r5,r6,rfl,a2,r7,r8,rfl,a3,r9,r10,rfl,a4,r11,r12,rfl,a5,a6⟩,a7⟩:=h.2
 exact ⟨_,⟨r3 ++ (r5 ++ (r7 ++ (r9 ++ r11))),r12,by simp,⟨sG,sI,sV,sB,r3,_,rfl,a1,r5,_,rfl,a2,r7,_,rfl,a3,r9,_,rfl,a4,a5⟩,a6⟩,a7⟩
theorem aJe {n:Int} (h:aA w0 F M Q) (h0:0≤n) (h1:n≤65536) (hR:∀ M' p,aA w0 F M' (star (lU p ⟨n,[],[],[],[]⟩) Q)→R (.pointer (some ⟨p,0,none⟩)) M'):C PP w0 Id.rP #[.int .i64 n] R M:=by
 apply rP.go
 unfold rP.T aH
 have hx:(if 0 > (if 65536 < n then 65536 else n) then 0 else (if 65536 < n then 65536 else n)) = n:=by
  rw [if_neg (show ¬ 65536 < n by omega),if_neg (by omega)]
 rw [hx]
 have hb:(aJ PP w0).oF tPl [(0,.int .i64 n)] = some (.agg #[.int .i64 n,.slice none 0 0,.slice none 0 0,.slice none 0 0,.slice none 0 0]):=by kernel_rfl
 rw [hb]
 simp only [aC,aZ,aW,aL,sJ,aU]
 intro p hp0 hpw
 have g:=aA.new h hp0 hpw [.int .i64 n,SV.v ⟨none,0,0⟩,SV.v ⟨none,0,0⟩,SV.v ⟨none,0,0⟩,SV.v ⟨none,0,0⟩] tPl
 refine hR _ p ?_
 obtain ⟨F1,k1,_,k2⟩:=g.last
 have k3:=k2 _ _ (aA.oB (k:=1) (aA.oB (k:=1) (aA.oB (k:=1) (aA.oB (k:=1) k1))))
 have:PX w0 F F _ p n ⟨none,0,0⟩ ⟨none,0,0⟩ ⟨none,0,0⟩ ⟨none,0,0⟩ ⟨none,0,0⟩ ⟨none,0,0⟩ ⟨none,0,0⟩ ⟨none,0,0⟩ [] [] [] [] Q:=⟨Mem.le_refl _,k3⟩
 exact this.close
theorem aEq {a g:Int} (h:aA w0 F M (star (lU p l) Q)) (hok:aG8 l) (hR:∀ M',Mem.le M M'→R (.int .i64 (l.look a g)) M'):C PP w0 Id.gL #[.pointer (some ⟨p,0,none⟩),.agg #[.int .i64 a,.int .i64 g]] R M:=by
 apply gL.go
 intro aB H
 unfold gL.T aH
 intro b1 hb0 hbw
 have l1:Mem.le M (M.set b1 (.row [.int .i64 a,.int .i64 g] 33)):=Mem.fC _ hb0
 have o1:cS w0 (M.set b1 (.row [.int .i64 a,.int .i64 g] 33)) b1 [.int .i64 a,.int .i64 g] 33:=cS.new hbw
 generalize M.set b1 _ = M1 at l1 o1 ⊢
 obtain ⟨sG,sI,sV,sB,hX⟩:=lU.open_ (h.le l1)
 have e0:rd w0 M1 ⟨b1,0,none⟩ = some (.int .i64 a):=aN (o:=0) o1
 have e1:rd w0 M1 ⟨b1,1,none⟩ = some (.int .i64 g):=aN (o:=1) o1
 have hn:=hX.nG
 have hi:=hX.nI
 unfold Pl.look at hR
 simp only [aT,aR W.c3,add_eq,Nat.zero_add,e0,e1,hX.ldG,aC,aL,aM]
 rw [cR]
 split
 ·rename_i c1;rw [if_pos (.inl c1)] at hR;exact hR M1 l1
 ·rename_i c1
  rw [cR]
  split
  ·rename_i c2;rw [if_pos (.inr (.inl (by omega)))] at hR;exact hR M1 l1
  ·rename_i c2
   rw [cR]
   split
   ·rename_i c3;rw [if_pos (.inr (.inr (.inl c3)))] at hR;exact hR M1 l1
   ·rename_i c3
    have hlt:a.toNat < l.lO.length:=by omega
    have hga:l.lO[a.toNat]? = some (l.lO.getD a.toNat 0):=by rw [List.getD_eq_getElem?_getD,List.getElem?_eq_getElem hlt];rfl
    have hia:l.ins[a.toNat]? = some (l.ins.getD a.toNat false):=by rw [List.getD_eq_getElem?_getD,List.getElem?_eq_getElem (by rw [hok.li];exact hlt)];rfl
    have vga:(vI l.lO)[a.toNat]? = some (.int .i64 (l.lO.getD a.toNat 0)):=by unfold vI;rw [List.getElem?_map,hga];rfl
    have via:(vB l.ins)[a.toNat]? = some (.bool (l.ins.getD a.toNat false)):=by unfold vB;rw [List.getElem?_map,hia];rfl
    generalize l.lO.getD a.toNat 0 = x at hR vga
    generalize l.ins.getD a.toNat false = y at hR via
    have hre:=rdv (dR hX.2.right).1 (vD (k:=1) hX.2.right) a.toNat (i:=a) (by omega) vga (K:=fun v=>mZ .i64 v fun n21=>bs (decide (g > n21)) (R (.int .i64 22) M1) (gL.J1 aB (some ⟨p,0,none⟩) ⟨b1,0,none⟩ M1))
    refine hre ?_
    rw [aL,cR]
    split
    ·rename_i c4;rw [if_pos (.inr (.inr (.inr c4)))] at hR;exact hR M1 l1
    ·rename_i c4
     rw [if_neg (by omega)] at hR
     refine Eq.mpr (H.J1 ..) ?_
     unfold gL.J1.T aH
     simp only [aT,aR W.c3,add_eq,Nat.zero_add,e0,e1,hX.ldG,hX.ldI,aC,aL,aM]
     refine rdv (dR hX.2.right).1 (vD (k:=1) hX.2.right) a.toNat (i:=a) (by omega) vga ?_
     rw [aL,cR]
     split
     ·rename_i c5;rw [if_pos (.inl c5)] at hR;exact hR M1 l1
     ·rename_i c5
      refine slG hX.2.right.right W.c4 (x:=a) a.toNat (by omega) via ?_
      rw [bU,tN]
      cases y with
      | false=>rw [mE];rw [if_pos (.inr rfl)] at hR;exact hR M1 l1
      | true =>
       rw [dZ]
       rw [if_neg (fun hh=>by rcases hh with hh | hh;exact c5 hh;cases hh)] at hR
       exact hR M1 l1
end
end
end HL
namespace HL
section
variable {w0:World} {F0 F M:Mem} {R:VP}
section
variable {p:Nat} {mo:Int} {hG hI hV hB sG sI sV sB:SV} {g:List Int} {i:List Bool} {v:List Int} {b:List Nat} {Q:cI}
theorem PX.rG (h:PX w0 F0 F M p mo hG hI hV hB sG sI sV sB g i v b Q):rd w0 M ⟨p,1,none⟩ = some (SV.v hG):=aN (o:=1) h.2.bC
theorem PX.rI (h:PX w0 F0 F M p mo hG hI hV hB sG sI sV sB g i v b Q):rd w0 M ⟨p,2,none⟩ = some (SV.v hI):=aN (o:=2) h.2.bC
theorem PX.rV (h:PX w0 F0 F M p mo hG hI hV hB sG sI sV sB g i v b Q):rd w0 M ⟨p,3,none⟩ = some (SV.v hV):=aN (o:=3) h.2.bC
theorem PX.rB (h:PX w0 F0 F M p mo hG hI hV hB sG sI sV sB g i v b Q):rd w0 M ⟨p,4,none⟩ = some (SV.v hB):=aN (o:=4) h.2.bC
theorem PX.eG (h:PX w0 F0 F M p mo hG hI hV hB sG sI sV sB g i v b Q) {t:TypeId} (ht:iF PP t = true) {x:Int} (a:Nat) (e:x = (a:Int)) (ha:a < g.length) {y:Int} {K:Mem→Prop} (hK:∀ M',PX w0 F0 F M' p mo hG hI hV hB sG sI sV sB (g.set a y) i v b Q→K M') :
  nc sG.a fun ad=>(0≤x∧x < ((sG.n:Nat):Int))∧(aJ PP w0).st t (ad.add (x.toNat * 1)) (.int .i64 y) (fun M'=>K M') M:=by
 have hn:=h.nG
 obtain ⟨F1,k1,l1,k2⟩:=h.2.last
 refine aLk ht k1 a e (by omega) (by decide) rfl rfl fun M' h'=>hK M' ⟨h.1,?_⟩
 have:=k2 _ _ h'
 rw [Nat.mul_one,show (vI g).set a (.int .i64 y) = vI (g.set a y) from by unfold vI;rw [List.map_set]] at this
 exact this
theorem PX.eI (h:PX w0 F0 F M p mo hG hI hV hB sG sI sV sB g i v b Q) {t:TypeId} (ht:iF PP t = true) {x:Int} (a:Nat) (e:x = (a:Int)) (ha:a < i.length) {y:Bool} {K:Mem→Prop} (hK:∀ M',PX w0 F0 F M' p mo hG hI hV hB sG sI sV sB g (i.set a y) v b Q→K M') :
  nc sI.a fun ad=>(0≤x∧x < ((sI.n:Nat):Int))∧(aJ PP w0).st t (ad.add (x.toNat * 1)) (.bool y) (fun M'=>K M') M:=by
 have hn:=h.nI
 obtain ⟨F1,k1,l1,k2⟩:=h.2.last
 obtain ⟨F2,k3,l2,k4⟩:=k1.last
 refine aLk ht k3 a e (by omega) (by decide) rfl rfl fun M' h'=>hK M' ⟨h.1,?_⟩
 have:=k2 _ _ (k4 _ _ h')
 rw [Nat.mul_one,show (vB i).set a (.bool y) = vB (i.set a y) from by unfold vB;rw [List.map_set]] at this
 exact this
theorem PX.eV (h:PX w0 F0 F M p mo hG hI hV hB sG sI sV sB g i v b Q) {t:TypeId} (ht:iF PP t = true) {x:Int} (a:Nat) (e:x = (a:Int)) (ha:a < v.length) {y:Int} {K:Mem→Prop} (hK:∀ M',PX w0 F0 F M' p mo hG hI hV hB sG sI sV sB g i (v.set a y) b Q→K M') :
  nc sV.a fun ad=>(0≤x∧x < ((sV.n:Nat):Int))∧(aJ PP w0).st t (ad.add (x.toNat * 1)) (.int .i64 y) (fun M'=>K M') M:=by
 have hn:=h.nV
 obtain ⟨F1,k1,l1,k2⟩:=h.2.last
 obtain ⟨F2,k3,l2,k4⟩:=k1.last
 obtain ⟨F3,k5,l3,k6⟩:=k3.last
 refine aLk ht k5 a e (by omega) (by decide) rfl rfl fun M' h'=>hK M' ⟨h.1,?_⟩
 have:=k2 _ _ (k4 _ _ (k6 _ _ h'))
 rw [Nat.mul_one,show (vI v).set a (.int .i64 y) = vI (v.set a y) from by unfold vI;rw [List.map_set]] at this
 exact this
theorem PX.q (h:PX w0 F0 F M p mo hG hI hV hB sG sI sV sB g i v b Q):aA w0 F M Q:=h.2.right.right.right.right.right
theorem PX.zJ {Q':cI} (h:PX w0 F0 F M p mo hG hI hV hB sG sI sV sB g i v b Q) {M':Mem} (hh:∀ F',aA w0 F' M Q→aA w0 F' M' Q'):PX w0 F0 F M' p mo hG hI hV hB sG sI sV sB g i v b Q':=by
 refine ⟨h.1,?_⟩
 obtain ⟨F1,k1,_,k2⟩:=h.2.last
 obtain ⟨F2,k3,_,k4⟩:=k1.last
 obtain ⟨F3,k5,_,k6⟩:=k3.last
 obtain ⟨F4,k7,_,k8⟩:=k5.last
 obtain ⟨F5,k9,_,k10⟩:=k7.last
 exact k2 _ _ (k4 _ _ (k6 _ _ (k8 _ _ (k10 _ _ (hh F5 k9)))))
theorem PX.aG2 (h:PX w0 F0 F M p mo hG hI hV hB sG sI sV sB g i v b Q) {y:SV} {x:Int} {G:Mem} (hy:Fz w0 G y (.int .i64 x)) (hl:Mem.le G F) (hb:g.length≤100000) {K:VP} (hK:∀ M' s',PX w0 F0 F M' p mo hG hI hV hB s' sI sV sB (g ++ [x]) i v b Q→K (SV.v s') M') :
  (aJ PP w0).app #[53,53] 53 [SV.v sG,SV.v y] K M:=PX.aG hy hl h hb hK
theorem PX.aI2 (h:PX w0 F0 F M p mo hG hI hV hB sG sI sV sB g i v b Q) {y:SV} {x:Bool} {G:Mem} (hy:Fz w0 G y (.bool x)) (hl:Mem.le G F) (hb:i.length≤100000) {K:VP} (hK:∀ M' s',PX w0 F0 F M' p mo hG hI hV hB sG s' sV sB g (i ++ [x]) v b Q→K (SV.v s') M') :
  (aJ PP w0).app #[157,157] 157 [SV.v sI,SV.v y] K M:=PX.aI hy hl h hb hK
theorem PX.aV2 (h:PX w0 F0 F M p mo hG hI hV hB sG sI sV sB g i v b Q) {y:SV} {x:Int} {G:Mem} (hy:Fz w0 G y (.int .i64 x)) (hl:Mem.le G F) (hb:v.length≤100000) {K:VP} (hK:∀ M' s',PX w0 F0 F M' p mo hG hI hV hB sG sI s' sB g i (v ++ [x]) b Q→K (SV.v s') M') :
  (aJ PP w0).app #[59,59] 59 [SV.v sV,SV.v y] K M:=PX.aV hy hl h hb hK
theorem PX.pop {x:Nat} {bs:List Nat} (h:PX w0 F0 F M p mo hG hI hV hB sG sI sV sB g i v (bs ++ [x]) Q):sB.a.isSome = true∧sB.c≠0∧sB.n = bs.length + 1∧(∀ ad,sB.a = some ad→ad.add 0 = ad)∧sB.n≤sB.c∧PX w0 F0 F M p mo hG hI hV hB sG sI sV ⟨sB.a,sB.n - 1,sB.c⟩ g i v bs Q:=by
 have hn:=h.nB
 rw [List.length_append,List.length_singleton] at hn
 obtain ⟨F1,k1,_,k2⟩:=h.2.last
 obtain ⟨F2,k3,_,k4⟩:=k1.last
 obtain ⟨F3,k5,_,k6⟩:=k3.last
 obtain ⟨F4,k7,_,k8⟩:=k5.last
 obtain ⟨blk,rest,e,ha,h1,h2,h3⟩:=dX.row k7 (by omega)
 have hv:vN (bs ++ [x]) = vN bs ++ [.int .i64 (x:Int)]:=by simp [vN]
 have hl:(vN bs).length = bs.length:=by simp [vN]
 rw [hv,List.append_assoc] at h3
 rw [hv,List.length_append,List.length_singleton,hl] at h1 h2
 refine ⟨by rw [ha];rfl,by omega,hn,fun ad had=>?_,by omega,h.1,?_⟩
 ·rw [ha] at had;cases had
  rw [add_eq]
 ·refine k2 _ _ (k4 _ _ (k6 _ _ (k8 _ _ ?_)))
  rw [ha]
  exact dX.ofRow h3 (by rw [hl];omega) (by rw [hl];simp;omega)
end
section
variable {p:Nat} {l:Pl} {Q:cI}
theorem aBs {b1:Nat} {c0 c1:Value} {x y:Int} {P:cI} (hN:aA w0 F M (star (bA b1 [c0,c1] 33) P)) {K:VP} (hK:∀ M',(∀ F' P',aA w0 F' M (star (bA b1 [c0,c1] 33) P')→aA w0 F' M' P')→K (.agg #[.int .i64 x,.int .i64 y]) M') :
  (aJ PP w0).st 33 ⟨b1,0,none⟩ (.agg #[.int .i64 x,.int .i64 y]) (fun M14=>ob ((aJ PP w0).rdv 33 (.pointer (some ⟨b1,0,none⟩)) M14) fun v15=>K v15 M14) M:=by
 refine hJ (vs:=[.int .i64 x,.int .i64 y]) W.g33 hN.bC (by simp) (by intro v hv;simp only [List.mem_cons,List.not_mem_nil,or_false] at hv;rcases hv with rfl | rfl <;> rfl) ?_
 have hP2:=hN.lJ (cs':=eO [c0,c1] 0 [.int .i64 x,.int .i64 y]) (e':=33)
 have o2:cS w0 _ b1 [.int .i64 x,.int .i64 y] 33:=hP2.bC
 rw [rC,dG (cs:=[.int .i64 x,.int .i64 y]) W.g33 (fun j v hj=>by rw [add_eq,aN o2,Nat.zero_add];exact hj),aC]
 exact hK _ fun F' P' h'=>(h'.lJ (cs':=eO [c0,c1] 0 [.int .i64 x,.int .i64 y]) (e':=33)).right
theorem aH5 {v:Int} (h:aA w0 F M (star (lU p l) Q)) (hok:aG8 l) (hs:l.lO.length≤10000) (hbl:l.back.length≤10000) (hg:∀ g∈l.lO,0≤g∧g≤1000000)
  (h0:l.at_ = none→∀ M',aA w0 F M' (star (lU p l) Q)→R (.tuple #[.agg #[.int .i64 0,.int .i64 0],.bool false]) M')
  (h1:∀ a,l.at_ = some a→∀ M',aA w0 F M' (star (lU p (l.take a v)) Q)→R (.tuple #[.agg #[.int .i64 (a:Int),.int .i64 (l.gen a)],.bool true]) M') :
  C PP w0 Id.gD #[.pointer (some ⟨p,0,none⟩),.int .i64 v] R M:=by
 apply gD.go
 intro aB H
 unfold gD.T aH
 intro b1 hb0 hbw
 have g1:=(aA.new h hb0 hbw [.int .i64 0,.int .i64 0] 33).dY
 change aA w0 F (M.set b1 (.row [.int .i64 0,.int .i64 0] 33)) (star (lU p l) (star (bA b1 [.int .i64 0,.int .i64 0] 33) Q)) at g1
 generalize M.set b1 _ = M1 at g1 ⊢
 obtain ⟨sG,sI,sV,sB,hX⟩:=lU.open_ g1
 have hnG:=hX.nG
 have hnB:=hX.nB
 have hli:=hok.li
 have hlv:=hok.lv
 have keyJ1:∀ (M' F':Mem) (sG sI sV sB:SV) (mo:Int) (gs:List Int) (is_:List Bool) (vs:List Int) (bs_:List Nat) (a:Nat),PX w0 F F' M' p mo sG sI sV sB sG sI sV sB gs is_ vs bs_ (star (bA b1 [.int .i64 0,.int .i64 0] 33) Q) →
   a < gs.length→is_.length = gs.length→vs.length = gs.length→(0≤gs.getD a 0∧gs.getD a 0≤1000000) →
   (∀ M'',aA w0 F M'' (star (lU p ⟨mo,gs.set a (gs.getD a 0 + 1),is_.set a true,vs.set a v,bs_⟩) Q)→R (.tuple #[.agg #[.int .i64 (a:Int),.int .i64 (gs.getD a 0 + 1)],.bool true]) M'') →
   gD.J1 aB (some ⟨p,0,none⟩) v ⟨b1,0,none⟩ (a:Int) M':=by
  intro M' F' sG sI sV sB mo gs is_ vs bs_ a hX ha h2 h3 hga hR
  refine Eq.mpr (H.J1 ..) ?_
  unfold gD.J1.T aH
  have vga:(vI gs)[a]? = some (.int .i64 (gs.getD a 0)):=by unfold vI;rw [List.getElem?_map,List.getD_eq_getElem?_getD,List.getElem?_eq_getElem ha];rfl
  generalize gs.getD a 0 = x at hR vga hga
  have eG:=hX.rG
  simp only [aT,aR W.c53,aR W.aHE,aR W.c59,add_eq,Nat.zero_add,eG,aC,aM]
  refine slG hX.2.right W.c3 (x:=(a:Int)) a rfl vga ?_
  rw [aL,aQ (by omega)]
  refine hX.eG W.c3 a rfl ha fun M2 hX2=>?_
  simp only [hX2.rI,hX2.rV,aC,aM]
  refine hX2.eI W.c4 a rfl (by omega) fun M3 hX3=>?_
  refine hX3.eV W.c2 a rfl (by omega) fun M4 hX4=>?_
  simp only [hX4.rG,aC,aM]
  refine slG hX4.2.right W.c3 (x:=(a:Int)) a rfl (v:=.int .i64 (x + 1)) (by unfold vI;rw [List.getElem?_map,List.getElem?_set_self ha];rfl) ?_
  rw [aL]
  have hbld:(aJ PP w0).oF 33 [(0,.int .i64 (a:Int)),(1,.int .i64 (x + 1))] = some (.agg #[.int .i64 (a:Int),.int .i64 (x + 1)]):=by kernel_rfl
  rw [hbld]
  simp only [aC,aZ,aW,aL,aU]
  refine aBs hX4.q (K:=fun v M=>R (.tuple #[v,.bool true]) M) fun M5 hback=>?_
  exact hR M5 (hX4.zJ fun F' h'=>hback F' _ h').close
 have hG:=hX.rG
 have hI:=hX.rI
 have hV:=hX.rV
 have hB:=hX.rB
 have hmo:rd w0 M1 ⟨p,0,none⟩ = some (.int .i64 l.most):=aN (o:=0) hX.2.bC
 simp only [aT,aR W.c3,aR W.c53,aR W.aHE,aR W.c59,add_eq,Nat.zero_add,hG,hI,hV,hB,hmo,aC,aM,aL]
 rw [cR]
 split
 ·-- one that was given back
  rename_i hpos
  obtain ⟨bs,x,hbs⟩:∃ bs x,l.back = bs ++ [x]:=by
   rcases List.eq_nil_or_concat l.back with e | ⟨bs,x,e⟩
   ·rw [e] at hnB;simp at hnB;omega
   ·exact ⟨bs,x,by rw [e,List.concat_eq_append]⟩
  have hat:l.at_ = some x:=by unfold Pl.at_;rw [hbs];simp
  have hlast:l.back.getLast? = some x:=by rw [hbs];simp
  have hgr:l.grow = { l with back:=bs }:=by
   unfold Pl.grow
   rw [hlast]
   simp [hbs]
  obtain ⟨hx1,hx2⟩:=hok.bk x (by rw [hbs];simp)
  rw [hbs] at hX
  obtain ⟨q1,q2,q3,q4,q5,hX2⟩:=hX.pop
  have hw:lN (((sB.n:Nat):Int) - 1) = ((bs.length:Nat):Int):=by rw [aQ (by have:=hX.nB;omega)];omega
  rw [hw]
  have hld:=hX.2.right.right.right.right
  refine rdv (dR hld).1 (vD (k:=1) hld) bs.length rfl (v:=.int .i64 (x:Int)) (by unfold vN;rw [List.getElem?_map,List.getElem?_append_right (Nat.le_refl _)];simp) ?_
  rw [aL]
  refine ⟨⟨by omega,by omega,by omega⟩,?_⟩
  have hsl:(Value.slice (if sB.c = (0:Int).toNat then sB.a else sB.a.map (·.add ((0:Int).toNat * 1))) (((bs.length:Nat):Int).toNat - (0:Int).toNat) (sB.c - (0:Int).toNat)) = SV.v ⟨sB.a,sB.n - 1,sB.c⟩:=by
   rw [Int.toNat_zero,if_neg q2,Int.toNat_natCast,Nat.sub_zero,Nat.sub_zero,Nat.zero_mul]
   unfold SV.v
   simp only
   congr 1
   ·cases hsa:sB.a with
    | none=>rfl
    | some ad=>simp only [Option.map_some];rw [q4 ad hsa]
   ·omega
  rw [hsl]
  refine hX2.wB fun M2 hX3=>?_
  refine keyJ1 M2 F sG sI sV ⟨sB.a,sB.n - 1,sB.c⟩ l.most l.lO l.ins l.vs bs x hX3 hx1 hli hlv ?_ fun M3 h3=>?_
  ·rw [List.getD_eq_getElem?_getD,List.getElem?_eq_getElem hx1]
   exact hg _ (List.getElem_mem hx1)
  ·have:=h1 x hat M3
   unfold Pl.take Pl.gen Pl.put at this
   rw [hgr] at this
   exact this h3
 ·rename_i hpos
  have hbn:l.back = []:=List.eq_nil_of_length_eq_zero (by omega)
  have hlast:l.back.getLast? = none:=by rw [hbn];rfl
  rw [cR]
  split
  ·rename_i hm
   have hat:l.at_ = none:=by unfold Pl.at_;rw [hlast];simp only;rw [if_pos (by omega)]
   have hbld:(aJ PP w0).oF 33 [] = some (.agg #[.int .i64 0,.int .i64 0]):=by kernel_rfl
   rw [hbld]
   simp only [aC,aZ,aW,aL,aU]
   refine aBs hX.q (K:=fun v M=>R (.tuple #[v,.bool false]) M) fun M5 hback=>?_
   exact h0 hat M5 (hX.zJ fun F' h'=>hback F' _ h').close
  ·rename_i hm
   have hat:l.at_ = some l.lO.length:=by unfold Pl.at_;rw [hlast];simp only;rw [if_neg (by omega)]
   have hgr:l.grow = { l with lO:=l.lO ++ [0],ins:=l.ins ++ [false],vs:=l.vs ++ [0] }:=by unfold Pl.grow;rw [hlast]
   have fin:∀ (M' F':Mem) (s1 s2 s3:SV),PX w0 F F' M' p l.most sG sI sV sB s1 s2 s3 sB (l.lO ++ [0]) (l.ins ++ [false]) (l.vs ++ [0]) l.back (star (bA b1 [.int .i64 0,.int .i64 0] 33) Q) →
     (aJ PP w0).st 53 ⟨p,1,none⟩ (SV.v s1) (fun M61=>(aJ PP w0).st 157 ⟨p,2,none⟩ (SV.v s2) (fun M63=>(aJ PP w0).st 59 ⟨p,3,none⟩ (SV.v s3) (fun M65=>gD.J1 aB (some ⟨p,0,none⟩) v ⟨b1,0,none⟩ ((sG.n:Nat):Int) M65) M63) M61) M':=by
    intro M' F' s1 s2 s3 hY
    refine hY.wG fun M2 hY2=>?_
    refine hY2.wI fun M3 hY3=>?_
    refine hY3.wV fun M4 hY4=>?_
    rw [hnG]
    refine keyJ1 M4 F' s1 s2 s3 sB l.most _ _ _ l.back l.lO.length hY4 (by simp) (by simp [hli]) (by simp [hlv]) ?_ fun M5 h5=>?_
    ·rw [List.getD_eq_getElem?_getD,List.getElem?_append_right (Nat.le_refl _)];simp
    ·have:=h1 _ hat M5
     unfold Pl.take Pl.gen Pl.put at this
     rw [hgr] at this
     exact this h5
   repeat' first
    | with_reducible exact PX.rG (by assumption)
    | with_reducible exact PX.rI (by assumption)
    | with_reducible exact PX.rV (by assumption)
    | with_reducible exact fin _ _ _ _ _ (by assumption)
    | (with_reducible refine PX.bI (by assumption) fun _ _ _ _ _ _=>?_;rw [aM])
    | (with_reducible refine PX.bB (by assumption) fun _ _ _ _ _ _=>?_;rw [aM])
    | (with_reducible refine PX.bJ (by assumption) fun _ _ _ _ _ _=>?_;rw [aM])
    | (with_reducible refine PX.aG2 (by assumption) (by assumption) (by first | exact Mem.le_refl _ | assumption | exact Mem.le_trans (by assumption) (by assumption)) (by omega) fun _ _ _=>?_;rw [aM])
    | (with_reducible refine PX.aI2 (by assumption) (by assumption) (by first | exact Mem.le_refl _ | assumption | exact Mem.le_trans (by assumption) (by assumption)) (by omega) fun _ _ _=>?_;rw [aM])
    | (with_reducible refine PX.aV2 (by assumption) (by assumption) (by first | exact Mem.le_refl _ | assumption | exact Mem.le_trans (by assumption) (by assumption)) (by omega) fun _ _ _=>?_;rw [aM])
    | refine ⟨?_,?_⟩
end
end
end HL
namespace HL
section
variable {w0:World} {F0 F M:Mem} {R:VP}
section
variable {p:Nat} {mo:Int} {hG hI hV hB sG sI sV sB:SV} {g:List Int} {i:List Bool} {v:List Int} {b:List Nat} {Q:cI}
theorem PX.focus (h:PX w0 F0 F M p mo hG hI hV hB sG sI sV sB g i v b Q):∃ F5,aA w0 F5 M Q∧∀ M' Q',aA w0 F5 M' Q'→PX w0 F0 F M' p mo hG hI hV hB sG sI sV sB g i v b Q':=by
 obtain ⟨F1,k1,_,k2⟩:=h.2.last
 obtain ⟨F2,k3,_,k4⟩:=k1.last
 obtain ⟨F3,k5,_,k6⟩:=k3.last
 obtain ⟨F4,k7,_,k8⟩:=k5.last
 obtain ⟨F5,k9,_,k10⟩:=k7.last
 exact ⟨F5,k9,fun M' Q' hh=>⟨h.1,k2 _ _ (k4 _ _ (k6 _ _ (k8 _ _ (k10 _ _ hh))))⟩⟩
theorem PX.nB0 (h:PX w0 F0 F M p mo hG hI hV hB sG sI sV sB g i v b Q) {K:VP} (hK:∀ M' s,PX w0 F0 F M' p mo hG hI hV hB sG sI sV sB g i v b (star (dX 1 s []) Q)→K (SV.v s) M'):(aJ PP w0).bsl 53 0 [] K M:=by
 obtain ⟨F5,k,back⟩:=h.focus
 refine rN (cells:=#[]) Tryz.underlying53 W.e3 (by decide) (by kernel_rfl) fun bb hb hw=>?_
 have l1:Mem.le M (M.set bb (.row (#[]:Array Value).toList 3)):=Mem.fC _ hb
 exact hK _ ⟨some ⟨bb,0,none⟩,0,0⟩ (back _ _ (aA.tV k l1 (wE.new (n:=0) hb (cS.new hw) rfl)))
theorem PX.nA1 {s:SV} (h:PX w0 F0 F M p mo hG hI hV hB sG sI sV sB g i v b (star (dX 1 s []) Q)) (hb:b.length≤100000) {K:VP} (hK:∀ M' s',PX w0 F0 F M' p mo hG hI hV hB sG sI sV sB g i v b (star (dX 1 s' (vN b)) Q)→K (SV.v s') M') :
  (aJ PP w0).app #[53,53] 53 [SV.v s,SV.v sB] K M:=by
 obtain ⟨F5,k,back⟩:=h.focus
 have e6:=dR h.2.right.right.right.right
 have hn:=h.nB
 have n0:s.n = 0:=by have:=(dR k).2.1;simp at this;omega
 refine vK Tryz.underlying53 W.e3 k e6.2.1 e6.1 e6.2.2 (aJh _) (by decide) (by omega) fun M' s' h'=>?_
 exact hK M' s' (back _ _ h')
theorem PX.nA2 {s y:SV} {x:Nat} {G:Mem} (h:PX w0 F0 F M p mo hG hI hV hB sG sI sV sB g i v b (star (dX 1 s (vN b)) Q)) (hy:Fz w0 G y (.int .i64 (x:Int))) (hl:Mem.le G F) (hb:b.length≤100000) {K:VP} (hK:∀ M' s',PX w0 F0 F M' p mo hG hI hV hB sG sI sV sB g i v b (star (dX 1 s' (vN (b ++ [x]))) Q)→K (SV.v s') M') :
  (aJ PP w0).app #[53,53] 53 [SV.v s,SV.v y] K M:=by
 obtain ⟨F5,k,back⟩:=h.focus
 have n0:s.n = b.length:=by have:=vD (k:=1) k;rw [this];simp [vN]
 refine vK Tryz.underlying53 W.e3 k (news:=[.int .i64 (x:Int)]) (by rw [hy.n];rfl) (hy.c M (Mem.le_trans hl h.2.fr)) (fun e=>absurd e hy.a) (aJh [x]) (by decide) (by rw [hy.n];omega) fun M' s' h'=>?_
 refine hK M' s' (back _ _ ?_)
 rw [show vN b ++ [Value.int .i64 (x:Int)] = vN (b ++ [x]) from by simp [vN]] at h'
 exact h'
theorem PX.aJU {s:SV} {b':List Nat} (h:PX w0 F0 F M p mo hG hI hV hB sG sI sV sB g i v b (star (dX 1 s (vN b')) Q)):PX w0 F0 F M p mo hG hI hV hB sG sI sV s g i v b' Q:=by
 refine ⟨h.1,?_⟩
 obtain ⟨F1,k1,_,k2⟩:=h.2.last
 obtain ⟨F2,k3,_,k4⟩:=k1.last
 obtain ⟨F3,k5,_,k6⟩:=k3.last
 obtain ⟨F4,k7,_,k8⟩:=k5.last
 exact k2 _ _ (k4 _ _ (k6 _ _ (k8 _ _ k7.right)))
end
section
variable {p:Nat} {l:Pl} {Q:cI}
theorem Pl.aJx {a g:Int} (hok:aG8 l) (h:l.look a g = 0):∃ n:Nat,a = (n:Int)∧n < l.lO.length∧l.ins[n]? = some true∧l.lO[n]? = some g:=by
 unfold Pl.look at h
 split at h
 ·cases h
 ·rename_i h1
  split at h
  ·cases h
  ·rename_i h2
   have hlt:a.toNat < l.lO.length:=by omega
   refine ⟨a.toNat,by omega,hlt,?_,?_⟩
   ·have:l.ins.getD a.toNat false = true:=by
     cases hx:l.ins.getD a.toNat false with
     | true=>rfl
     | false=>exact absurd (.inr hx) h2
    rw [List.getD_eq_getElem?_getD,List.getElem?_eq_getElem (by rw [hok.li];exact hlt)] at this
    rw [List.getElem?_eq_getElem (by rw [hok.li];exact hlt)]
    simpa using this
   ·have:l.lO.getD a.toNat 0 = g:=by omega
    rw [List.getD_eq_getElem?_getD,List.getElem?_eq_getElem hlt] at this
    rw [List.getElem?_eq_getElem hlt]
    simpa using this
theorem aHO {a g:Int} (h:aA w0 F M (star (lU p l) Q)) (hok:aG8 l) (hbl:l.back.length≤10000)
  (h0:l.look a g≠0→∀ M',aA w0 F M' (star (lU p l) Q)→R (.tuple #[.int .i64 0,.int .i64 (l.look a g)]) M')
  (h1:∀ n:Nat,a = (n:Int)→l.look a g = 0→∀ M',aA w0 F M' (star (lU p (l.gK n)) Q)→R (.tuple #[.int .i64 (l.vs.getD n 0),.int .i64 0]) M') :
  C PP w0 Id.oI #[.pointer (some ⟨p,0,none⟩),.agg #[.int .i64 a,.int .i64 g]] R M:=by
 apply oI.go
 unfold oI.T aH
 intro b1 hb0 hbw
 have g1:=(aA.new h hb0 hbw [.int .i64 a,.int .i64 g] 33).dY
 change aA w0 F (M.set b1 (.row [.int .i64 a,.int .i64 g] 33)) (star (lU p l) (star (bA b1 [.int .i64 a,.int .i64 g] 33) Q)) at g1
 generalize M.set b1 _ = M1 at g1 ⊢
 have o1:=g1.right.bC
 rw [dG (cs:=[.int .i64 a,.int .i64 g]) W.g33 (fun j v hj=>by rw [add_eq,aN o1,Nat.zero_add];exact hj)]
 simp only [aC,aZ,aW,aL,aU]
 refine aEq g1 hok fun M2 l2=>?_
 have g2:=g1.le l2
 have strip:∀ {M4:Mem} {l':Pl},aA w0 F M4 (star (lU p l') (star (bA b1 [.int .i64 a,.int .i64 g] 33) Q))→aA w0 F M4 (star (lU p l') Q):=fun g=>by
  obtain ⟨F',k1,_,k2⟩:=g.last
  exact k2 _ _ k1.right
 rw [aL,cB]
 split
 ·rename_i hz
  obtain ⟨n,rfl,hlt,hin,hgn⟩:=Pl.aJx hok hz
  obtain ⟨sG,sI,sV,sB,hX⟩:=lU.open_ g2
  have e0:∀ {M':Mem} {F':Mem} {mo:Int} {hG hI hV hB sG sI sV sB:SV} {gs:List Int} {is_:List Bool} {vs:List Int} {bs_:List Nat},PX w0 F F' M' p mo hG hI hV hB sG sI sV sB gs is_ vs bs_ (star (bA b1 [.int .i64 (n:Int),.int .i64 g] 33) Q)→rd w0 M' ⟨b1,0,none⟩ = some (.int .i64 (n:Int)):=fun hY=>aN (o:=0) hY.q.bC
  have e0':∀ {M':Mem} {F':Mem} {mo:Int} {hG hI hV hB sG sI sV sB:SV} {gs:List Int} {is_:List Bool} {vs:List Int} {bs_:List Nat} {X:cI},PX w0 F F' M' p mo hG hI hV hB sG sI sV sB gs is_ vs bs_ (star X (star (bA b1 [.int .i64 (n:Int),.int .i64 g] 33) Q))→rd w0 M' ⟨b1,0,none⟩ = some (.int .i64 (n:Int)):=fun hY=>aN (o:=0) hY.q.right.bC
  simp only [aT,aR W.aHE,aR W.c3,add_eq,Nat.zero_add,hX.rI,e0 hX,aC,aM,aL]
  refine hX.eI W.c4 n rfl (by rw [hok.li];exact hlt) fun M3 hX3=>?_
  simp only [aT,aR W.c53,aR W.c59,aR W.c3,aR W.c2,add_eq,Nat.zero_add,hX3.rB,e0 hX3,aC,aM,aL]
  have fin:∀ (M' F':Mem) (s:SV),PX w0 F F' M' p l.most sG sI sV sB sG sI sV sB l.lO (l.ins.set n false) l.vs l.back (star (dX 1 s (vN (l.back ++ [n]))) (star (bA b1 [.int .i64 (n:Int),.int .i64 g] 33) Q)) →
    (aJ PP w0).st 53 ⟨p,4,none⟩ (SV.v s) (fun M39=>ob (rd w0 M39 ⟨p,3,none⟩) fun v41=>shS v41 fun s42=>ob (rd w0 M39 ⟨b1,0,none⟩) fun v43=>mZ .i64 v43 fun n44=>nc s42.a fun a45=>(0≤n44∧n44 < ((s42.n:Nat):Int))∧ob (rd w0 M39 (a45.add (n44.toNat * 1))) fun v46=>mZ .i64 v46 fun n47=>R (.tuple #[.int .i64 n47,.int .i64 0]) M39) M':=by
   intro M' F' s hY
   refine PX.wB hY fun M4 hY4=>?_
   have hY5:=hY4.aJU
   simp only [hY5.rV,e0 hY5,aC,aM,aL]
   have hlv:n < l.vs.length:=by rw [hok.lv];exact hlt
   refine rdv (dR hY5.2.right.right.right).1 (vD (k:=1) hY5.2.right.right.right) n rfl (v:=.int .i64 (l.vs.getD n 0)) (by unfold vI;rw [List.getElem?_map,List.getD_eq_getElem?_getD,List.getElem?_eq_getElem hlv];rfl) ?_
   rw [aL]
   exact h1 n rfl hz M4 (strip hY5.close)
  repeat' first
   | with_reducible exact PX.rB (by assumption)
   | with_reducible exact e0 (by assumption)
   | with_reducible exact e0' (by assumption)
   | with_reducible exact fin _ _ _ (by assumption)
   | (with_reducible refine PX.nB0 (by assumption) fun _ _ _=>?_;rw [aM])
   | (with_reducible refine PX.bI (by assumption) fun _ _ _ _ _ _=>?_;rw [aM])
   | (with_reducible refine PX.nA1 (by assumption) (by omega) fun _ _ _=>?_;rw [aM])
   | (with_reducible refine PX.nA2 (by assumption) (by assumption) (by first | exact Mem.le_refl _ | assumption) (by omega) fun _ _ _=>?_;rw [aM])
   | refine ⟨?_,?_⟩
 ·rename_i hz
  exact h0 hz M2 (strip g2)
end
end
end HL
end Go.Proofs.YtodobkbnmjgkdaaGreat
