import Derived.Test.YtodobkbnmjgkdaaGreatPe11
namespace Go.Proofs.YtodobkbnmjgkdaaGreat
open Go.RowKit (Below)
set_option linter.unusedVariables false
set_option linter.unusedSimpArgs false
namespace HL
def kD (a b:Int):Int:=if 9223372036854775807 < a + b then 9223372036854775807 else if a + b < -9223372036854775808 then -9223372036854775808 else a + b
theorem aC1 {a b:Int}:gC (kD a b):=by
 unfold gC kD;split
 ·omega
 ·split <;> omega
def aBU (a0 a1 b0 b1:Int):Int:=if a0 < b0 then -1 else if b0 < a0 then 1 else if a1 < b1 then -1 else if b1 < a1 then 1 else 0
end HL
namespace HL
structure AS where
 n:Nat
 get:Nat→Nat→Int
 live:Nat→Bool
 never:Nat
 free:List Nat
 steps:Int
 begun:Int
 most:Int
namespace AS
def tick (α:AS):AS:={ α with steps:=kD α.steps 1 }
def oC (α:AS) (c:Int):Bool:=decide (0≤c) && α.live c.toNat
def xZ (α:AS) (c f:Int):Bool:=α.oC c && decide (0≤f) && decide (f < 10)
def jW (α:AS) (c f:Int):Int:=if α.xZ c f = true then α.get c.toNat f.toNat else -1
def fR (α:AS) (c f:Int):Int:=if α.jW c f < 0∨(α.n:Int)≤α.jW c f then -1 else α.jW c f
def put (α:AS) (c f:Nat) (v:Int):AS:={ α with get:=fun c' f'=>if c' = c∧f' = f then v else α.get c' f' }
def mC (α:AS) (c f v:Int):AS:=if α.xZ c f = true then α.put c.toNat f.toNat v else α
def fresh (f:Nat):Int:=if f = 4∨f = 5∨f = 7∨f = 8 then 0 else -1
def lay (α:AS) (c:Nat):AS:={ α with get:=fun c' f'=>if c' = c then fresh f' else α.get c' f',live:=fun c'=>if c' = c then true else α.live c' }
def next (α:AS):Option Nat:=match α.free.getLast? with
 | some c=>some c
 | none=>if α.never < α.n then some α.never else none
def take (α:AS):AS:=match α.free.getLast? with
 | some c=>{ α.lay c with free:=α.free.dropLast }
 | none=>if α.never < α.n then { α.lay α.never with never:=α.never + 1 } else α
def wC (α:AS):Int:=match α.next with
 | some c=>(c:Int)
 | none => -1
def lI (α:AS) (c:Nat):AS:={ α with live:=fun c'=>if c' = c then false else α.live c',free:=α.free ++ [c] }
def xA (α:AS) (c:Int):AS:=if α.oC c = true then α.lI c.toNat else α
def len (α:AS):Nat:=(List.range α.never).countP α.live
def new (n:Nat):AS:=⟨n,fun _ _=>0,fun _=>false,0,[],0,0,0⟩
structure Inv (α:AS):Prop where
 n:α.n≤65536
 never:α.never≤α.n
 free:∀ c∈α.free,c < α.never∧α.live c = false
 live:∀ c,α.never≤c→α.live c = false
 nd:α.free.Nodup
 len:α.free.length + α.len = α.never
 steps:0≤α.steps∧gC α.steps
theorem yP (p q:Nat→Bool) (c:Nat) (hpq:∀ x,x≠c→q x = p x) (hp:p c = false) (hq:q c = true):∀ k,(List.range k).countP q = (List.range k).countP p + if c < k then 1 else 0:=by
 intro k
 induction k with
 | zero=>rfl
 | succ k ih =>
  rw [List.range_succ,List.countP_append,List.countP_append,ih]
  simp only [List.countP_cons,List.countP_nil,Nat.zero_add]
  by_cases h:k = c
  ·subst h
   rw [hp,hq,if_neg (Nat.lt_irrefl _),if_pos (Nat.lt_succ_self _)];simp
  ·rw [hpq k h]
   by_cases h2:c < k
   ·have h3:c < k + 1:=by omega
    simp only [if_pos h2,if_pos h3];omega
   ·have h3:¬ c < k + 1:=by omega
    simp only [if_neg h2,if_neg h3];omega
theorem aEw (p:Nat→Bool):∀ (d k:Nat),(∀ x,k≤x→p x = false)→(List.range (k + d)).countP p = (List.range k).countP p:=by
 intro d
 induction d with
 | zero=>intro k _;rfl
 | succ d ih =>
  intro k h
  rw [←Nat.add_assoc,List.range_succ,List.countP_append,ih k h]
  simp [h (k + d) (by omega)]
theorem qJ {α:AS} (h:Inv α):Inv α.tick :=
 ⟨h.n,h.never,h.free,h.live,h.nd,h.len,by
  have:=h.steps
  refine ⟨?_,aC1⟩
  show 0≤kD α.steps 1
  unfold kD;split
  ·omega
  ·split <;> omega⟩
theorem aDe {α:AS} (h:Inv α) (c f:Nat) (v:Int):Inv (α.put c f v):=⟨h.n,h.never,h.free,h.live,h.nd,h.len,h.steps⟩
theorem aBD {α:AS} (h:Inv α) {c:Nat} (hc:α.live c = true):c < α.never:=by
 apply Decidable.byContradiction
 intro hn
 have:=h.live c (by omega)
 rw [hc] at this;cases this
theorem aBt {α:AS} (h:Inv α) {c:Int} (hc:α.oC c = true):0≤c∧c.toNat < α.never∧α.live c.toNat = true:=by
 simp only [oC,Bool.and_eq_true,decide_eq_true_eq] at hc
 exact ⟨hc.1,aBD h hc.2,hc.2⟩
theorem aBC {α:AS} (h:Inv α) {c:Nat} (hc:α.live c = true):Inv (α.lI c):=by
 have hlt:=aBD h hc
 have hcount:=yP (fun c'=>if c' = c then false else α.live c') α.live c (fun x hx=>by simp [hx]) (by simp) hc α.never
 rw [if_pos hlt] at hcount
 have hlen:=h.len
 unfold len at hlen
 refine ⟨h.n,h.never,fun x hx=>?_,fun x hx=>?_,?_,?_,h.steps⟩
 ·rcases List.mem_append.1 hx with hx | hx
  ·obtain ⟨h1,h2⟩:=h.free x hx
   refine ⟨h1,?_⟩
   show (if x = c then false else α.live x) = false
   split
   ·rfl
   ·exact h2
  ·simp at hx
   subst hx
   exact ⟨hlt,by simp [lI]⟩
 ·show (if x = c then false else α.live x) = false
  split
  ·rfl
  ·exact h.live x hx
 ·show (α.free ++ [c]).Nodup
  rw [List.nodup_append]
  refine ⟨h.nd,by simp,fun a ha b hb e=>?_⟩
  simp at hb
  subst hb
  subst e
  have:=(h.free a ha).2
  rw [hc] at this;cases this
 ·show (α.free ++ [c]).length + (List.range α.never).countP (fun c'=>if c' = c then false else α.live c') = α.never
  rw [List.length_append,List.length_singleton];omega
theorem aDQ {α:AS} (h:Inv α):Inv α.take:=by
 have hlen:=h.len
 unfold len at hlen
 unfold take
 cases hl:α.free.getLast? with
 | some c =>
  have hmem:c∈α.free:=List.mem_of_getLast? hl
  obtain ⟨h1,h2⟩:=h.free c hmem
  have hsplit:α.free = α.free.dropLast ++ [c]:=by
   obtain ⟨l,e⟩:=List.getLast?_eq_some_iff.1 hl
   rw [e];simp
  have hcount:=yP α.live (fun c'=>if c' = c then true else α.live c') c (fun x hx=>by simp [hx]) h2 (by simp) α.never
  rw [if_pos h1] at hcount
  have fW:=h.nd
  rw [hsplit,List.nodup_append] at fW
  refine ⟨h.n,h.never,fun x hx=>?_,fun x hx=>?_,fW.1,?_,h.steps⟩
  ·have hx':x∈α.free.dropLast:=hx
   have hxf:x∈α.free:=by rw [hsplit];exact List.mem_append_left _ hx'
   obtain ⟨g1,g2⟩:=h.free x hxf
   refine ⟨g1,?_⟩
   show (if x = c then true else α.live x) = false
   rw [if_neg (fW.2.2 x hx' c (by simp))];exact g2
  ·show (if x = c then true else α.live x) = false
   have hx':α.never≤x:=hx
   rw [if_neg (by omega)];exact h.live x hx
  ·show α.free.dropLast.length + (List.range α.never).countP (fun c'=>if c' = c then true else α.live c') = α.never
   have:α.free.length = α.free.dropLast.length + 1:=by
    conv=>lhs;rw [hsplit]
    simp
   omega
 | none =>
  simp only
  split
  ·rename_i hlt
   have hf:α.free = []:=List.getLast?_eq_none_iff.1 hl
   have h2:=h.live α.never (Nat.le_refl _)
   have hcount:=yP α.live (fun c'=>if c' = α.never then true else α.live c') α.never (fun x hx=>by simp [hx]) h2 (by simp) (α.never + 1)
   rw [if_pos (Nat.lt_succ_self _)] at hcount
   have hout:=aEw α.live 1 α.never h.live
   refine ⟨h.n,hlt,fun x hx=>?_,fun x hx=>?_,h.nd,?_,h.steps⟩
   ·have hx':x∈α.free:=hx
    rw [hf] at hx';cases hx'
   ·show (if x = α.never then true else α.live x) = false
    have hx':α.never + 1≤x:=hx
    rw [if_neg (by omega)];exact h.live x (by omega)
   ·show α.free.length + (List.range (α.never + 1)).countP (fun c'=>if c' = α.never then true else α.live c') = α.never + 1
    omega
  ·exact h
theorem aFH {n:Nat} (h:n≤65536):Inv (new n) :=
 ⟨h,Nat.zero_le _,fun c hc=>(by cases hc),fun _ _=>rfl,List.nodup_nil,rfl,by unfold gC new;simp⟩
theorem kL {α:AS} (h:Inv α) {c:Nat} (hn:α.next = some c):c < α.n∧α.live c = false∧α.take = { α.lay c with free:=α.take.free,never:=α.take.never }:=by
 unfold next at hn
 unfold take
 cases hl:α.free.getLast? with
 | some x =>
  rw [hl] at hn;cases hn
  obtain ⟨h1,h2⟩:=h.free c (List.mem_of_getLast? hl)
  have:=h.never
  exact ⟨by omega,h2,rfl⟩
 | none =>
  rw [hl] at hn
  simp only at hn ⊢
  split at hn
  ·rename_i hlt
   cases hn
   rw [if_pos hlt]
   exact ⟨hlt,h.live _ (Nat.le_refl _),rfl⟩
  ·cases hn
theorem xN {α:AS} (hn:α.next = none):α.take = α∧α.free = []∧α.n≤α.never:=by
 unfold next at hn
 unfold take
 cases hl:α.free.getLast? with
 | some x=>rw [hl] at hn;cases hn
 | none =>
  rw [hl] at hn
  simp only at hn ⊢
  split at hn
  ·cases hn
  ·rename_i h
   rw [if_neg h]
   exact ⟨rfl,List.getLast?_eq_none_iff.1 hl,by omega⟩
end AS
structure jP (cs:List Value) (α:AS):Prop where
 len:cs.length = 11 * α.n
 f:∀ c f,c < α.n→f < 10→cs[11 * c + f]? = some (.int .i64 (α.get c f))
 t:∀ c,c < α.n→cs[11 * c + 10]? = some (.bool (α.live c))
theorem jP.tick {cs:List Value} {α:AS} (h:jP cs α):jP cs α.tick:=⟨h.len,h.f,h.t⟩
theorem jP.put {cs:List Value} {α:AS} (h:jP cs α) {c f:Nat} (hc:c < α.n) (hf:f < 10) (v:Int):jP (cs.set (11 * c + f) (.int .i64 v)) (α.put c f v):=by
 refine ⟨by rw [List.length_set];exact h.len,fun c' f' hc' hf'=>?_,fun c' hc'=>?_⟩
 ·have hlen:=h.len
  have hc'':c' < α.n:=hc'
  rw [List.getElem?_set]
  show _ = some (Value.int .i64 (if c' = c∧f' = f then v else α.get c' f'))
  by_cases e:c' = c∧f' = f
  ·obtain ⟨rfl,rfl⟩:=e
   rw [if_pos rfl,if_pos (by omega),if_pos ⟨rfl,rfl⟩]
  ·rw [if_neg (by omega),if_neg e]
   exact h.f c' f' hc' hf'
 ·rw [List.getElem?_set,if_neg (by omega)]
  exact h.t c' hc'
theorem jP.mark {cs:List Value} {α:AS} (h:jP cs α) {c:Nat} (hc:c < α.n):jP (cs.set (11 * c + 10) (.bool false)) (α.lI c):=by
 refine ⟨by rw [List.length_set];exact h.len,fun c' f' hc' hf'=>?_,fun c' hc'=>?_⟩
 ·rw [List.getElem?_set,if_neg (by omega)]
  exact h.f c' f' hc' hf'
 ·have hlen:=h.len
  have hc'':c' < α.n:=hc'
  rw [List.getElem?_set]
  show _ = some (Value.bool (if c' = c then false else α.live c'))
  by_cases e:c' = c
  ·subst e
   rw [if_pos rfl,if_pos (by omega),if_pos rfl]
  ·rw [if_neg (by omega),if_neg e]
   exact h.t c' hc'
def mV:List Value:=[.int .i64 (-1),.int .i64 (-1),.int .i64 (-1),.int .i64 (-1),.int .i64 0,.int .i64 0,.int .i64 (-1),.int .i64 0,.int .i64 0,.int .i64 (-1),.bool true]
theorem jP.lay {cs:List Value} {α:AS} (h:jP cs α) {c:Nat} (hc:c < α.n) {α':AS} (e1:α'.n = α.n) (e2:α'.get = (α.lay c).get) (e3:α'.live = (α.lay c).live):jP (eO cs (11 * c) mV) α':=by
 have hlen:=h.len
 have hr:11 * c + mV.length≤cs.length:=by rw [hlen];show 11 * c + 11≤_;omega
 refine ⟨by rw [aDA,e1];exact hlen,fun c' f' hc' hf'=>?_,fun c' hc'=>?_⟩
 ·rw [xH _ _ _ _ hr,show mV.length = 11 from rfl,e2]
  show _ = some (Value.int .i64 (if c' = c then AS.fresh f' else α.get c' f'))
  by_cases e:c' = c
  ·subst e
   rw [if_neg (by omega),if_pos (by omega),if_pos rfl,show 11 * c' + f' - 11 * c' = f' from by omega]
   match f',hf' with
   | 0,_ | 1,_ | 2,_ | 3,_ | 4,_ | 5,_ | 6,_ | 7,_ | 8,_ | 9,_=>rfl
  ·rw [if_neg e,←h.f c' f' (by omega) hf']
   by_cases h1:11 * c' + f' < 11 * c
   ·rw [if_pos h1]
   ·rw [if_neg h1,if_neg (by omega)]
 ·rw [xH _ _ _ _ hr,show mV.length = 11 from rfl,e3]
  show _ = some (Value.bool (if c' = c then true else α.live c'))
  by_cases e:c' = c
  ·subst e
   rw [if_neg (by omega),if_pos (by omega),if_pos rfl,show 11 * c' + 10 - 11 * c' = 10 from by omega];rfl
  ·rw [if_neg e,←h.t c' (by omega)]
   by_cases h1:11 * c' + 10 < 11 * c
   ·rw [if_pos h1]
   ·rw [if_neg h1,if_neg (by omega)]
end HL
set_option maxRecDepth 100000
namespace HL
section
variable {w0:World} {M M0:Mem}
theorem aCh {R:VP} {n lo hi:Int} (hn:gC n) (h1 : -4611686018427387904≤lo) (h2:lo≤hi) (h3:hi≤1152921504606846976) (h4:hi - lo≤1152921504606846976) (h:∀ x,lo≤x→x≤hi→R (.int .i64 x) M):C PP w0 Id.cT #[.int .i64 n,.int .i64 lo,.int .i64 hi] R M:=by
 apply cT.go
 intro aB H
 unfold cT.T aH
 have hj:cT.J1 aB n lo hi M:=by
  refine Eq.mpr (H.J1 ..) ?_
  unfold cT.J1.T aH
  rw [aQ (n:=hi - lo) (by omega),aQ (n:=hi - lo + 1) (by omega)]
  refine ⟨rfl,by omega,?_⟩
  have a1:Int.tmod n (hi - lo + 1) < hi - lo + 1:=Int.tmod_lt_of_pos n (by omega)
  have a2 : -(hi - lo + 1) < Int.tmod n (hi - lo + 1):=by
   have:=Int.tmod_lt_of_pos (-n) (show 0 < hi - lo + 1 by omega)
   rw [Int.neg_tmod] at this;omega
  generalize Int.tmod n (hi - lo + 1) = r at a1 a2
  rw [cR]
  split
  ·rw [aQ (n:=r + hi) (by omega),aQ (n:=r + hi - lo) (by omega),aQ (n:=r + hi - lo + 1) (by omega),aQ (by omega)]
   exact h _ (by omega) (by omega)
  ·rw [aQ (by omega)]
   exact h _ (by omega) (by omega)
 simp only [cR]
 split
 ·split
  ·exact h n (by omega) (by omega)
  ·exact hj
 ·exact hj
theorem aBE {Mb:Mem} {k:IntKind} {t e:TypeId} {z:Value} {n:Nat} {parts:List (Nat × Value)} {l:List Int} (hle:Mem.le Mb M) (ht:PP.underlying t = some (.slice e)) (he:jU PP e z 1)
  (h24:n≤16777216) (hc:Instr.fill (fun k=>some (k * 1,1)) ((Array.range (n * 1)).map (z.cells[· % z.cells.size]!)) parts = some (l.map (Value.int k)).toArray) (hn:l.length = n) {K:VP}
  (h:∀ M' s',Mem.le Mb M'→Mem.le M M'→Sl w0 Mb M' s' (l.map (Value.int k))→K s'.v M'):(aJ PP w0).bsl t n parts K M :=
 aIv hle ht he h24 hc (by simp [hn]) h
theorem aLn {l:List Int} (h:∀ x∈l,gC x):∀ n∈l,(Lit.int .i64 n).wf = true:=fun n hn=>aHT (h n hn)
theorem aLg {R:SV→Mem→Prop} {n:Nat} {parts:List (Nat × Value)} (l:List Int) (h24:n≤16777216) (hc:Instr.fill (fun k=>some (k * 1,1)) ((Array.range (n * 1)).map ((Value.int .i64 0).cells[· % (Value.int .i64 0).cells.size]!)) parts = some (l.map (Value.int .i64)).toArray) (hn:l.length = n) (hw:∀ n∈l,(Lit.int .i64 n).wf = true)
  (h:∀ M' s',Mem.le M M'→qO w0 M' .i64 s' l→R s' M'):(aJ PP w0).bsl 53 n parts (fun v M'=>shS v fun s'=>R s' M') M:=by
 refine aBE (Mem.le_refl _) Tryz.underlying53 W.e3 h24 hc hn fun M' s' h1 h2 h3=>?_
 simp only [go_sem]
 exact h M' s' h1 (h3.rdI hw (by omega))
end
end HL
namespace HL
section
variable {w0:World} {M F:Mem} {R:VP}
theorem rC {t:TypeId} {ad:Addr}:(aJ PP w0).rdv t (.pointer (some ad)) M = (aJ PP w0).ld t ad M:=rfl
theorem vR {a b:Int} (ha:gC a) (hb:gC b) (h:R (.int .i64 (kD a b)) M):C PP w0 Id.kS #[.int .i64 a,.int .i64 b] R M:=by
 apply kS.go
 unfold kS.T aH
 unfold gC at ha hb
 unfold kD at h
 by_cases h1:b > 0
 ·have e:lN (9223372036854775807 - b) = 9223372036854775807 - b:=aQ (by omega)
  rw [e,cR,if_pos h1,cR]
  split
  ·rw [if_pos (by omega)] at h;exact h
  ·rw [if_neg (by omega),if_neg (by omega)] at h
   rw [cR,if_neg (by omega),aQ (by omega)];exact h
 ·rw [cR,if_neg h1]
  by_cases h2:b < 0
  ·have e:lN ((-9223372036854775808) - b) = (-9223372036854775808) - b:=aQ (by omega)
   rw [e,cR,if_pos h2,cR]
   split
   ·rw [if_neg (by omega),if_pos (by omega)] at h;exact h
   ·rw [if_neg (by omega),if_neg (by omega)] at h
    rw [aQ (by omega)];exact h
  ·rw [cR,if_neg h2]
   rw [if_neg (by omega),if_neg (by omega)] at h
   rw [aQ (by omega)];exact h
end
end HL
namespace HL
section
variable {w0:World} {M F:Mem} {R:VP}
abbrev iC (s g m:Int):List Value:=[.int .i64 s,.int .i64 g,.int .i64 m]
theorem aAL {b:Nat} {s g m n:Int} (ho:cS w0 M b (iC s g m) 163) (hs:gC s) (hn:gC n) (h0:0≤n) (h:R (.tuple #[]) (M.set b (.row (iC (kD s n) g m) 163))):C PP w0 Id.pK #[.pointer (some ⟨b,0,none⟩),.int .i64 n] R M:=by
 apply pK.go
 unfold pK.T aH
 have e1:rd w0 M ⟨b,0,none⟩ = some (.int .i64 s):=by rw [aN ho];rfl
 have e2:(if n > 0 then n else 0) = n:=by split <;> omega
 simp only [go_sem,e1,e2]
 refine vR hs hn ?_
 simp only [go_sem]
 exact gO W.c2 ho (by simp) rfl rfl h
theorem aIg {b:Nat} {s g m:Int} (ho:cS w0 M b (iC s g m) 163) (h:R (.int .i64 s) M):C PP w0 Id.lR #[.pointer (some ⟨b,0,none⟩)] R M:=by
 apply lR.go
 unfold lR.T aH
 have e1:rd w0 M ⟨b,0,none⟩ = some (.int .i64 s):=by rw [aN ho];rfl
 simp only [go_sem,e1]
 exact h
abbrev arR (bL n never:Nat) (sf:SV) (bM:Nat):List Value:=[.slice (some ⟨bL,0,none⟩) n n,.int .i64 (never:Int),sf.v,.pointer (some ⟨bM,0,none⟩)]
def nQ (l:List Nat):List Value:=l.map fun (c:Nat)=>Value.int .i64 (c:Int)
def aF (a:Nat) (α:AS):cI:=fun r=>α.Inv∧∃ bL bM sf cs rf,r = (a,arR bL α.n α.never sf bM,145)::(bL,cs,251)::(bM,iC α.steps α.begun α.most,163)::rf∧jP cs α∧pS sf (nQ α.free) rf
structure Seen (w0:World) (M:Mem) (a bL bM:Nat) (sf:SV) (cs:List Value) (α:AS):Prop where
 a:cS w0 M a (arR bL α.n α.never sf bM) 145
 l:cS w0 M bL cs 251
 m:cS w0 M bM (iC α.steps α.begun α.most) 163
 cs:jP cs α
 inv:α.Inv
theorem aA.seen {a:Nat} {α:AS} (h:aA w0 F M (aF a α)):∃ bL bM sf cs,Seen w0 M a bL bM sf cs α∧sf.n = α.free.length:=by
 obtain ⟨r,⟨hi,bL,bM,sf,cs,rf,rfl,hc,hs⟩,hf⟩:=h
 exact ⟨bL,bM,sf,cs,⟨hf.own (by simp),hf.own (by simp),hf.own (by simp),hc,hi⟩,by rw [hs.len];simp [nQ]⟩
theorem aA.inv {a:Nat} {α:AS} (h:aA w0 F M (aF a α)):α.Inv:=by
 obtain ⟨r,⟨hi,_⟩,_⟩:=h;exact hi
section
variable {a bL bM:Nat} {sf:SV} {cs:List Value} {α:AS}
theorem Seen.r0 (h:Seen w0 M a bL bM sf cs α):rd w0 M ⟨a,0,none⟩ = some (.slice (some ⟨bL,0,none⟩) α.n α.n):=by rw [aN h.a];rfl
theorem Seen.r3 (h:Seen w0 M a bL bM sf cs α):rd w0 M ⟨a,3,none⟩ = some (.pointer (some ⟨bM,0,none⟩)):=by rw [aN h.a];rfl
theorem Seen.live (h:Seen w0 M a bL bM sf cs α) {c:Nat} (hc:c < α.n):rd w0 M ⟨bL,c * 11 + 10,none⟩ = some (.bool (α.live c)):=by
 rw [aN h.l,Nat.mul_comm];exact h.cs.t c hc
theorem Seen.f (h:Seen w0 M a bL bM sf cs α) {c f:Nat} (hc:c < α.n) (hf:f < 10):rd w0 M ⟨bL,c * 11 + f,none⟩ = some (.int .i64 (α.get c f)):=by
 rw [aN h.l,Nat.mul_comm];exact h.cs.f c f hc hf
theorem aBd (hs:Seen w0 M a bL bM sf cs α) {c:Int} (h:R (.bool (α.oC c)) M):C PP w0 Id.nZ #[.pointer (some ⟨a,0,none⟩),.int .i64 c] R M:=by
 apply nZ.go
 unfold nZ.T aH
 simp only [go_sem,hs.r0,cR]
 split
 ·rename_i h0
  obtain ⟨c,rfl⟩:∃ k:Nat,c = (k:Int):=⟨c.toNat,by omega⟩
  have e:α.oC (c:Int) = α.live c:=by simp [AS.oC]
  rw [e] at h
  split
  ·rename_i hc
   have hc':c < α.n:=by omega
   refine ⟨by omega,?_⟩
   simp only [add_eq,Int.toNat_natCast,Nat.zero_add,hs.live hc',aC,bU]
   exact h
  ·rename_i hc
   have:=hs.inv.live c (by have:=hs.inv.never;omega)
   rw [this] at h;exact h
 ·rename_i h0
  have e:α.oC c = false:=by
   unfold AS.oC
   rw [decide_eq_false (by omega)];rfl
  rw [e] at h;exact h
theorem aFZ (hs:Seen w0 M a bL bM sf cs α) {c f:Int} (h:R (.bool (α.xZ c f)) M):C PP w0 Id.sN #[.pointer (some ⟨a,0,none⟩),.int .i64 c,.int .i64 f] R M:=by
 apply sN.go
 unfold sN.T aH
 refine aBd hs ?_
 simp only [go_sem]
 unfold AS.xZ at h
 rw [aHn]
 refine ⟨fun h1=>?_,fun h1=>by rw [h1] at h;exact h⟩
 rw [h1] at h
 rw [cR]
 split
 ·rename_i h2
  rw [decide_eq_true h2] at h;exact h
 ·rename_i h2
  rw [decide_eq_false h2] at h;exact h
end
theorem xT {a:Nat} {α:AS} (hA:aA w0 F M (aF a α)) {c:Int} (h:R (.bool (α.oC c)) M):C PP w0 Id.nZ #[.pointer (some ⟨a,0,none⟩),.int .i64 c] R M:=by
 obtain ⟨bL,bM,sf,cs,hs,_⟩:=hA.seen
 exact aBd hs h
theorem wQ {a:Nat} {α:AS} (hA:aA w0 F M (aF a α)) (h:R (.int .i64 (α.n:Int)) M):C PP w0 Id.mD #[.pointer (some ⟨a,0,none⟩)] R M:=by
 obtain ⟨bL,bM,sf,cs,hs,_⟩:=hA.seen
 apply mD.go
 unfold mD.T aH
 simp only [go_sem,hs.r0]
 exact h
theorem aA.aC9 {a:Nat} {α:AS} (hA:aA w0 F M (aF a α)):∃ bL bM sf cs,Seen w0 M a bL bM sf cs α∧Seen w0 (M.set bM (.row (iC (kD α.steps 1) α.begun α.most) 163)) a bL bM sf cs α.tick∧aA w0 F (M.set bM (.row (iC (kD α.steps 1) α.begun α.most) 163)) (aF a α.tick):=by
 obtain ⟨r,⟨hi,bL,bM,sf,cs,rf,rfl,hc,hs⟩,hf⟩:=hA
 have hf':Fit w0 F (M.set bM (.row (iC (kD α.steps 1) α.begun α.most) 163)) ((a,arR bL α.n α.never sf bM,145)::(bL,cs,251)::(bM,iC (kD α.steps 1) α.begun α.most,163)::rf):=by
  have h1:=hf.perm (r':=(bM,iC α.steps α.begun α.most,163)::(a,arR bL α.n α.never sf bM,145)::(bL,cs,251)::rf) (List.perm_middle (l₁:=[_,_]))
  exact h1.upd.perm (List.perm_middle (l₁:=[_,_])).symm
 refine ⟨bL,bM,sf,cs,⟨hf.own (by simp),hf.own (by simp),hf.own (by simp),hc,hi⟩,⟨hf'.own (by simp [AS.tick]),hf'.own (by simp),hf'.own (by simp [AS.tick]),hc.tick,AS.qJ hi⟩,_,⟨AS.qJ hi,bL,bM,sf,cs,rf,rfl,hc.tick,hs⟩,hf'⟩
theorem aDt:gC 1:=by unfold gC;omega
theorem qU {a:Nat} {α:AS} (hA:aA w0 F M (aF a α)) {c f:Int} (h:∀ M',aA w0 F M' (aF a α.tick)→R (.int .i64 (α.jW c f)) M'):C PP w0 Id.rU #[.pointer (some ⟨a,0,none⟩),.int .i64 c,.int .i64 f] R M:=by
 obtain ⟨bL,bM,sf,cs,hs,hs1,hA1⟩:=hA.aC9
 apply rU.go
 unfold rU.T aH
 simp only [go_sem,add_eq,Nat.zero_add,hs.r3]
 refine aAL hs.m hs.inv.steps.2 aDt (by omega) ?_
 refine aFZ hs1 ?_
 have hh:=h _ hA1
 unfold AS.jW at hh
 simp only [go_sem,tN]
 rw [aHn]
 refine ⟨fun h1=>?_,fun h1=>?_⟩
 ·change α.xZ c f = true at h1
  rw [if_pos h1] at hh
  simp only [AS.xZ,Bool.and_eq_true,decide_eq_true_eq] at h1
  obtain ⟨⟨h2,h3⟩,h4⟩:=h1
  obtain ⟨h5,h6,h7⟩:=AS.aBt hs.inv h2
  have hn:=hs.inv.never
  obtain ⟨c,rfl⟩:∃ k:Nat,c = (k:Int):=⟨c.toNat,by omega⟩
  obtain ⟨f,rfl⟩:∃ k:Nat,f = (k:Int):=⟨f.toNat,by omega⟩
  simp only [Int.toNat_natCast] at h6 hh
  have e0:=hs1.r0
  have e1:=hs1.f (c:=c) (f:=f) (by show c < α.n;omega) (by omega)
  simp only [e0,aC,sJ,aT,add_eq,Nat.zero_add,Int.toNat_natCast,Nat.mul_one,e1,aL]
  exact ⟨⟨by omega,by show (c:Int) < (α.n:Int);omega⟩,⟨by omega,by omega⟩,hh⟩
 ·change α.xZ c f = false at h1
  rw [h1] at hh;exact hh
theorem eZ {a:Nat} {α:AS} (hA:aA w0 F M (aF a α)) {c f:Int} (h:∀ M',aA w0 F M' (aF a α.tick)→R (.int .i64 (α.fR c f)) M'):C PP w0 Id.oQ #[.pointer (some ⟨a,0,none⟩),.int .i64 c,.int .i64 f] R M:=by
 apply oQ.go
 unfold oQ.T aH
 refine qU hA fun M' hA'=>?_
 obtain ⟨bL,bM,sf,cs,hs,_⟩:=hA'.seen
 have hh:=h M' hA'
 unfold AS.fR at hh
 have e:α.tick.n = α.n:=rfl
 simp only [go_sem,hs.r0,cR,e]
 split
 ·rw [if_pos (by omega)] at hh;exact hh
 ·split
  ·rw [if_pos (by omega)] at hh;exact hh
  ·rw [if_neg (by omega)] at hh;exact hh
theorem iA {a:Nat} {α:AS} (hA:aA w0 F M (aF a α)) {c f v:Int} (h:∀ M',aA w0 F M' (aF a (α.mC c f v).tick)→R (.bool (α.xZ c f)) M'):C PP w0 Id.pT #[.pointer (some ⟨a,0,none⟩),.int .i64 c,.int .i64 f,.int .i64 v] R M:=by
 obtain ⟨bL,bM,sf,cs,hs,hs1,hA1⟩:=hA.aC9
 apply pT.go
 unfold pT.T aH
 simp only [go_sem,add_eq,Nat.zero_add,hs.r3]
 refine aAL hs.m hs.inv.steps.2 aDt (by omega) ?_
 generalize hM1:M.set bM (.row (iC (kD α.steps 1) α.begun α.most) 163) = M1 at hs1 hA1 ⊢
 refine aFZ hs1 ?_
 simp only [go_sem,tN]
 rw [aHn]
 refine ⟨fun h1=>?_,fun h1=>?_⟩
 ·change α.xZ c f = true at h1
  unfold AS.mC at h
  rw [if_pos h1,h1] at h
  simp only [AS.xZ,Bool.and_eq_true,decide_eq_true_eq] at h1
  obtain ⟨⟨h2,h3⟩,h4⟩:=h1
  obtain ⟨h5,h6,h7⟩:=AS.aBt hs.inv h2
  have hn:=hs.inv.never
  obtain ⟨c,rfl⟩:∃ k:Nat,c = (k:Int):=⟨c.toNat,by omega⟩
  obtain ⟨f,rfl⟩:∃ k:Nat,f = (k:Int):=⟨f.toNat,by omega⟩
  simp only [Int.toNat_natCast] at h6 h
  have hcn:c < α.n:=by omega
  have hfn:f < 10:=by omega
  obtain ⟨r,⟨hi,bL',bM',sf',cs',rf,rfl,hc,hsl⟩,hf⟩:=hA1
  have e0:rd w0 M1 ⟨a,0,none⟩ = some (.slice (some ⟨bL',0,none⟩) α.n α.n):=by rw [aN (hf.own (b:=a) (cs:=arR bL' α.n α.never sf' bM') (e:=145) List.mem_cons_self)];rfl
  simp only [e0,aC,sJ,aT,add_eq,Nat.zero_add,Int.toNat_natCast,Nat.mul_one]
  refine ⟨⟨by omega,by omega⟩,⟨by omega,by omega⟩,?_⟩
  refine gO W.c2 (hf.own (b:=bL') (cs:=cs') (e:=251) (by simp)) (by rw [hc.len];show c * 11 + f < 11 * α.n;omega) rfl rfl ?_
  refine h _ ⟨_,⟨AS.qJ (AS.aDe hs.inv c f v),bL',bM',sf',cs'.set (11 * c + f) (.int .i64 v),rf,rfl,(jP.put (α:=α) ⟨hc.len,hc.f,hc.t⟩ hcn hfn v).tick,hsl⟩,?_⟩
  rw [Nat.mul_comm c 11]
  have h1:=hf.perm (List.perm_middle (l₁:=[_]))
  exact h1.upd.perm (List.perm_middle (l₁:=[_])).symm
 ·change α.xZ c f = false at h1
  unfold AS.mC at h
  rw [h1] at h
  exact h _ hA1
theorem aJk (h:∀ M',Mem.le M M'→R (.agg mV.toArray) M'):C PP w0 Id.bW #[] R M:=by
 apply bW.go
 intro aB H
 unfold bW.T aH
 intro b1 hb1 hw1
 simp only [go_sem]
 intro b2 hb2 hw2
 have f1:=(Fit.nil (w0:=w0) (Mem.le_refl M)).new hb1 hw1 (cs:=[.int .i64 0,.int .i64 0,.int .i64 0,.int .i64 0,.int .i64 0,.int .i64 0,.int .i64 0,.int .i64 0,.int .i64 0,.int .i64 0,.bool false]) (e:=251)
 have f2:=f1.new hb2 hw2 (cs:=[.int .i64 0,.int .i64 0,.int .i64 0,.int .i64 0,.int .i64 0,.int .i64 0,.int .i64 0,.int .i64 0,.int .i64 0,.int .i64 0,.bool false]) (e:=251)
 refine hJ (vs:=[.int .i64 0,.int .i64 0,.int .i64 0,.int .i64 0,.int .i64 0,.int .i64 0,.int .i64 0,.int .i64 0,.int .i64 0,.int .i64 0,.bool true]) W.aJo (f2.own List.mem_cons_self) (by decide) (by decide) ?_
 have f3:=f2.upd (cs':=eO [.int .i64 0,.int .i64 0,.int .i64 0,.int .i64 0,.int .i64 0,.int .i64 0,.int .i64 0,.int .i64 0,.int .i64 0,.int .i64 0,.bool false] 0 [.int .i64 0,.int .i64 0,.int .i64 0,.int .i64 0,.int .i64 0,.int .i64 0,.int .i64 0,.int .i64 0,.int .i64 0,.int .i64 0,.bool true]) (e':=251)
 refine rN (cells:=(([0,1,2,3,6,9]:List Int).map fun n=>Value.int .i64 n).toArray) Tryz.underlying53 W.e3 (by decide) (by kernel_rfl) fun b3 hb3 hw3=>?_
 have f4:=f3.new hb3 hw3 (cs:=(([0,1,2,3,6,9]:List Int).map fun n=>Value.int .i64 n)) (e:=3)
 simp only [go_sem]
 have step:∀ (k i:Nat) (f:Nat) (cs:List Value) (M':Mem),([0,1,2,3,6,9]:List Int)[i]? = some (f:Int)→f < 10→cs.length = 11→i < 6 →
   Fit w0 M M' [(b3,(([0,1,2,3,6,9]:List Int).map fun n=>Value.int .i64 n),3),(b2,cs,251),(b1,[.int .i64 0,.int .i64 0,.int .i64 0,.int .i64 0,.int .i64 0,.int .i64 0,.int .i64 0,.int .i64 0,.int .i64 0,.int .i64 0,.bool false],251)] →
   (∀ M'',Fit w0 M M'' [(b3,(([0,1,2,3,6,9]:List Int).map fun n=>Value.int .i64 n),3),(b2,cs.set f (.int .i64 (-1)),251),(b1,[.int .i64 0,.int .i64 0,.int .i64 0,.int .i64 0,.int .i64 0,.int .i64 0,.int .i64 0,.int .i64 0,.int .i64 0,.int .i64 0,.bool false],251)] →
    bW.L1 aB k ⟨b1,0,none⟩ ⟨b2,0,none⟩ ⟨some ⟨b3,0,none⟩,6,6⟩ 6 ((i + 1:Nat):Int) M'') →
   bW.L1 aB (k + 1) ⟨b1,0,none⟩ ⟨b2,0,none⟩ ⟨some ⟨b3,0,none⟩,6,6⟩ 6 (i:Int) M':=by
  intro k i f cs M' hi hf hl h6 hfit hK
  refine Eq.mpr (H.L1 ..) ?_
  unfold bW.L1.T aH
  rw [cR,if_pos (by omega)]
  have hr:qO w0 M' .i64 ⟨some ⟨b3,0,none⟩,6,6⟩ [0,1,2,3,6,9]:=qO.own (hfit.own List.mem_cons_self) rfl (Nat.le_refl _) (aJq _) (by decide) (by decide)
  refine rdx W.c3 hr (Mem.le_refl _) i rfl hi ?_
  refine ⟨⟨by omega,by omega⟩,?_⟩
  rw [add_eq,Nat.zero_add,Nat.mul_one,Int.toNat_natCast]
  refine gO W.c2 (hfit.own (b:=b2) (cs:=cs) (e:=251) (by simp)) (by omega) rfl rfl ?_
  rw [aQ (by omega)]
  refine hK _ ?_
  have h1:=hfit.perm (List.perm_middle (l₁:=[_]))
  exact h1.upd.perm (List.perm_middle (l₁:=[_])).symm
 refine ⟨7,step 6 0 0 _ _ rfl (by omega) rfl (by omega) f4 fun M5 f5=>step 5 1 1 _ _ rfl (by omega) (by rw [List.length_set];rfl) (by omega) f5 fun M6 f6=>step 4 2 2 _ _ rfl (by omega) (by simp only [List.length_set];rfl) (by omega) f6 fun M7 f7 =>
  step 3 3 3 _ _ rfl (by omega) (by simp only [List.length_set];rfl) (by omega) f7 fun M8 f8=>step 2 4 6 _ _ rfl (by omega) (by simp only [List.length_set];rfl) (by omega) f8 fun M9 f9=>step 1 5 9 _ _ rfl (by omega) (by simp only [List.length_set];rfl) (by omega) f9 fun M10 f10=>?_⟩
 refine Eq.mpr (H.L1 ..) ?_
 unfold bW.L1.T aH
 rw [cR,if_neg (by omega)]
 have o2:cS w0 M10 b2 mV 251:=f10.own (List.mem_cons_of_mem _ List.mem_cons_self)
 have o1:=f10.own (List.mem_cons_of_mem _ (List.mem_cons_of_mem _ List.mem_cons_self))
 rw [dG (cs:=mV) W.aJo (fun j v hj=>by rw [add_eq,aN o2,Nat.zero_add];exact hj)]
 simp only [mV,go_sem]
 refine hJ (vs:=mV) W.aJo o1 (by decide) (by decide) ?_
 have f11:=(f10.perm (List.perm_middle (l₁:=[_,_]))).upd (cs':=mV) (e':=251)
 have o3:=f11.own List.mem_cons_self
 have hov:eO [.int .i64 0,.int .i64 0,.int .i64 0,.int .i64 0,.int .i64 0,.int .i64 0,.int .i64 0,.int .i64 0,.int .i64 0,.int .i64 0,.bool false] 0 mV = mV:=rfl
 rw [hov,rC,dG (cs:=mV) W.aJo (fun j v hj=>by rw [add_eq,aN o3,Nat.zero_add];exact hj)]
 exact h _ f11.fr
theorem aB8 {n c j:Nat} (hc:c < n) (hj:j < 11):(iN (.agg #[.int .i64 0,.int .i64 0,.int .i64 0,.int .i64 0,.int .i64 0,.int .i64 0,.int .i64 0,.int .i64 0,.int .i64 0,.int .i64 0,.bool false]) n)[11 * c + j]? = [Value.int .i64 0,.int .i64 0,.int .i64 0,.int .i64 0,.int .i64 0,.int .i64 0,.int .i64 0,.int .i64 0,.int .i64 0,.int .i64 0,.bool false][j]?:=by
 have hlt:11 * c + j < n * 11:=by omega
 have hm:(11 * c + j) % 11 = j:=by omega
 simp only [iN,Builtin.zeroCells,Value.cells]
 rw [Array.getElem?_toList,Array.getElem?_map]
 rw [Array.getElem?_eq_getElem (by simpa using hlt)]
 simp only [Array.getElem_range,Option.map_some]
 rw [show (#[Value.int .i64 0,.int .i64 0,.int .i64 0,.int .i64 0,.int .i64 0,.int .i64 0,.int .i64 0,.int .i64 0,.int .i64 0,.int .i64 0,.bool false]:Array Value).size = 11 from rfl,hm]
 match j,hj with
 | 0,_ | 1,_ | 2,_ | 3,_ | 4,_ | 5,_ | 6,_ | 7,_ | 8,_ | 9,_ | 10,_=>rfl
theorem aAx (h:∀ b,M b = none→w0.heap.size≤b→R (.pointer (some ⟨b,0,none⟩)) (M.set b (.row (iC 0 0 0) 163))):C PP w0 Id.kW #[] R M:=by
 apply kW.go
 unfold kW.T aH
 simp only [go_sem]
 exact h
theorem aK9 {cells:Int} (h:∀ M' a,aA w0 M M' (aF a (AS.new (if (if 65536 < cells then 65536 else cells) > 0 then (if 65536 < cells then 65536 else cells) else 0).toNat))→R (.pointer (some ⟨a,0,none⟩)) M'):C PP w0 Id.kY #[.int .i64 cells] R M:=by
 apply kY.go
 unfold kY.T aH
 obtain ⟨n,hn,hle⟩:∃ n:Nat,(if (if 65536 < cells then 65536 else cells) > 0 then (if 65536 < cells then 65536 else cells) else 0) = (n:Int)∧n≤65536:=by
  refine ⟨(if (if 65536 < cells then 65536 else cells) > 0 then (if 65536 < cells then 65536 else cells) else 0).toNat,?_,?_⟩
  ·split
   ·omega
   ·omega
  ·split
   ·split <;> omega
   ·omega
 rw [hn] at h ⊢
 simp only [Int.toNat_natCast] at h
 obtain ⟨i,hi,hz,h1,h2,h3,h4⟩:=W.aMV
 have hcells:jP (iN (.agg #[.int .i64 0,.int .i64 0,.int .i64 0,.int .i64 0,.int .i64 0,.int .i64 0,.int .i64 0,.int .i64 0,.int .i64 0,.int .i64 0,.bool false]) n) (AS.new n):=by
  refine ⟨by rw [pM];show n * 11 = 11 * n;omega,fun c f hc hf=>?_,fun c hc=>?_⟩
  ·rw [aB8 (n:=n) (j:=f) hc (by omega)]
   match f,hf with
   | 0,_ | 1,_ | 2,_ | 3,_ | 4,_ | 5,_ | 6,_ | 7,_ | 8,_ | 9,_=>rfl
  ·rw [aB8 (n:=n) (j:=10) hc (by omega)];rfl
 have fin:∀ (bL bM:Nat) (M1:Mem),Fit w0 M M1 [(bL,iN (.agg #[.int .i64 0,.int .i64 0,.int .i64 0,.int .i64 0,.int .i64 0,.int .i64 0,.int .i64 0,.int .i64 0,.int .i64 0,.int .i64 0,.bool false]) n,251),(bM,iC 0 0 0,163)] →
   ∀ b,M1 b = none→w0.heap.size≤b→R (.pointer (some ⟨b,0,none⟩)) (M1.set b (.row (arR bL n 0 ⟨none,0,0⟩ bM) 145)):=by
  intro bL bM M1 hf b hb hw
  refine h _ b ⟨_,⟨AS.aFH hle,bL,bM,⟨none,0,0⟩,_,[],rfl,hcells,pS.nil⟩,?_⟩
  exact hf.new hb hw
 have hmks:∀ (M1:Mem) (K:VP),(∀ b,M1 b = none→w0.heap.size≤b→K (.slice (some ⟨b,0,none⟩) n n) (M1.set b (.row (iN (.agg #[.int .i64 0,.int .i64 0,.int .i64 0,.int .i64 0,.int .i64 0,.int .i64 0,.int .i64 0,.int .i64 0,.int .i64 0,.int .i64 0,.bool false]) n) 251))) →
   (aJ PP w0).mks 143 (.int .i64 (n:Int)) (.int .i64 (n:Int)) K M1:=by
  intro M1 K hK
  refine aLt Tryz.underlying143 hi hz (by rw [h1];exact h2) (Nat.le_refl _) ?_ (by omega) hK
  exact Nat.le_trans (Nat.mul_le_mul h4 hle) (by decide)
 constructor
 ·refine hmks M _ fun b hb hw=>?_
  simp only [go_sem]
  refine aAx fun b2 hb2 hw2=>?_
  simp only [go_sem]
  have f1:=((Fit.nil (w0:=w0) (Mem.le_refl M)).new hb hw (cs:=iN (.agg #[.int .i64 0,.int .i64 0,.int .i64 0,.int .i64 0,.int .i64 0,.int .i64 0,.int .i64 0,.int .i64 0,.int .i64 0,.int .i64 0,.bool false]) n) (e:=251)).new hb2 hw2 (cs:=iC 0 0 0) (e:=163)
  exact fin b b2 _ (f1.perm (List.Perm.swap _ _ _))
 ·refine aAx fun b2 hb2 hw2=>?_
  simp only [go_sem]
  refine hmks _ _ fun b hb hw=>?_
  simp only [go_sem]
  have f1:=((Fit.nil (w0:=w0) (Mem.le_refl M)).new hb2 hw2 (cs:=iC 0 0 0) (e:=163)).new hb hw (cs:=iN (.agg #[.int .i64 0,.int .i64 0,.int .i64 0,.int .i64 0,.int .i64 0,.int .i64 0,.int .i64 0,.int .i64 0,.int .i64 0,.int .i64 0,.bool false]) n) (e:=251)
  exact fin b b2 _ f1
theorem z9 (l:List Nat):(nQ l).length = l.length:=by simp [nQ]
theorem aCs (l:List Nat):nQ l = (l.map fun (c:Nat)=>(c:Int)).map (Value.int .i64):=by simp [nQ]
theorem aGw {l:List Nat} {j c:Nat} (h:l[j]? = some c):(nQ l)[j]? = some (.int .i64 (c:Int)):=by simp [nQ,h]
theorem aFO {a:Nat} {α:AS} (hA:aA w0 F M (aF a α)) (h:∀ M',aA w0 F M' (aF a α.take.tick)→R (.tuple #[.int .i64 α.wC,.bool α.next.isSome]) M'):C PP w0 Id.gS #[.pointer (some ⟨a,0,none⟩)] R M:=by
 have hInv:=hA.inv
 obtain ⟨bL',bM',sf',cs',hs,hs1,hA1⟩:=hA.aC9
 apply gS.go
 intro aB H
 unfold gS.T aH
 simp only [go_sem,add_eq,Nat.zero_add,hs.r3]
 refine aAL hs.m hs.inv.steps.2 aDt (by omega) ?_
 obtain ⟨r,⟨hi,bL,bM,sf,cs,rf,rfl,hc,hsl⟩,hf⟩:=hA1
 clear hs1 hs
 generalize M.set bM' (.row (iC (kD α.steps 1) α.begun α.most) 163) = M1 at hf ⊢
 change Fit w0 F M1 ((a,arR bL α.n α.never sf bM,145)::(bL,cs,251)::(bM,iC (kD α.steps 1) α.begun α.most,163)::rf) at hf
 change pS sf (nQ α.free) rf at hsl
 have lay:∀ (c:Nat) (M2:Mem) (never:Nat) (sf:SV) (free:List Nat) (rf:Rws),c < α.n→α.next = some c→α.take.tick.never = never→α.take.tick.free = free →
   Fit w0 F M2 ((a,arR bL α.n never sf bM,145)::(bL,cs,251)::(bM,iC (kD α.steps 1) α.begun α.most,163)::rf)→pS sf (nQ free) rf→gS.J1 aB (some ⟨a,0,none⟩) (c:Int) M2:=by
  intro c M2 never sf free rf hcn hnx hnv hfr hf2 hsl2
  refine Eq.mpr (H.J1 ..) ?_
  unfold gS.J1.T aH
  have e0:rd w0 M2 ⟨a,0,none⟩ = some (.slice (some ⟨bL,0,none⟩) α.n α.n):=by rw [aN (hf2.own List.mem_cons_self)];rfl
  simp only [go_sem,e0]
  refine aJk fun M3 l3=>?_
  have hf3:=hf2.le l3
  have e3:rd w0 M3 ⟨a,0,none⟩ = some (.slice (some ⟨bL,0,none⟩) α.n α.n):=by rw [aN (hf3.own List.mem_cons_self)];rfl
  simp only [mV,go_sem,e3,add_eq,Nat.zero_add,Int.toNat_natCast]
  refine ⟨⟨by omega,by omega⟩,rfl,?_⟩
  refine hJ (vs:=mV) W.aJo (hf3.own (List.mem_cons_of_mem _ List.mem_cons_self)) (by rw [hc.len];show c * 11 + 11≤11 * α.n;omega) (by decide) ?_
  have hni:α.wC = (c:Int):=by unfold AS.wC;rw [hnx]
  have hh:=h (M3.set bL (.row (eO cs (c * 11) mV) 251))
  rw [hni,hnx] at hh
  refine hh ⟨_,⟨AS.qJ (AS.aDQ hInv),bL,bM,sf,eO cs (11 * c) mV,rf,rfl,?_,by rw [hfr];exact hsl2⟩,?_⟩
  ·have h5:=(AS.kL hInv hnx).2.2
   refine (jP.lay (α:=α) ⟨hc.len,hc.f,hc.t⟩ hcn (α':=α.take) ?_ ?_ ?_).tick
   ·rw [h5];rfl
   ·rw [h5]
   ·rw [h5]
  ·have h5:=(AS.kL hInv hnx).2.2
   have en:α.take.tick.n = α.n:=by show α.take.n = α.n;rw [h5];rfl
   have es:α.take.tick.steps = kD α.steps 1:=by show kD α.take.steps 1 = _;rw [h5];rfl
   have eb:α.take.tick.begun = α.begun:=by show α.take.begun = _;rw [h5];rfl
   have em:α.take.tick.most = α.most:=by show α.take.most = _;rw [h5];rfl
   rw [en,es,eb,em,hnv,Nat.mul_comm c 11]
   exact ((hf3.perm (List.perm_middle (l₁:=[_]))).upd).perm (List.perm_middle (l₁:=[_])).symm
 have e1:rd w0 M1 ⟨a,1,none⟩ = some (.int .i64 (α.never:Int)):=by rw [aN (hf.own List.mem_cons_self)];rfl
 have e2:rd w0 M1 ⟨a,2,none⟩ = some sf.v:=by rw [aN (hf.own List.mem_cons_self)];rfl
 have e0:rd w0 M1 ⟨a,0,none⟩ = some (.slice (some ⟨bL,0,none⟩) α.n α.n):=by rw [aN (hf.own List.mem_cons_self)];rfl
 have hlen:sf.n = α.free.length:=by rw [hsl.len];exact z9 _
 have hInvl:=hInv.len
 have hInvn:=hInv.never
 have hInvm:=hInv.n
 simp only [go_sem,add_eq,Nat.zero_add,e1,e2,e0,cR]
 split
 ·rename_i hge
  rw [aQ (by omega)] at hge
  have hlast:∃ c,α.free.getLast? = some c:=by
   cases hx:α.free.getLast? with
   | some c=>exact ⟨c,rfl⟩
   | none=>have:=List.getLast?_eq_none_iff.1 hx;rw [this] at hlen;simp at hlen;omega
  obtain ⟨c,hlast⟩:=hlast
  have hidx:α.free[α.free.length - 1]? = some c:=by rw [←List.getLast?_eq_getElem?];exact hlast
  have hsplit:α.free = α.free.dropLast ++ [c]:=by
   obtain ⟨l,e⟩:=List.getLast?_eq_some_iff.1 hlast
   rw [e];simp
  have hnx:α.next = some c:=by unfold AS.next;rw [hlast]
  have htake:α.take = { α.lay c with free:=α.free.dropLast }:=by unfold AS.take;rw [hlast]
  have hcn:=(AS.kL hInv hnx).1
  have hpos:0 < α.free.length:=by omega
  clear hge
  rcases hsl with ⟨rfl,h0,_⟩ | ⟨bF,rest,e,rfl,rfl⟩
  ·simp only at hlen;omega
  ·have hoF:=hf.own (b:=bF) (cs:=nQ α.free ++ rest) (e:=e) (by simp)
   have eF:rd w0 M1 ⟨bF,α.free.length - 1,none⟩ = some (.int .i64 (c:Int)):=by
    rw [aN hoF,List.getElem?_append_left (by rw [z9];omega)]
    exact aGw hidx
   simp only [z9] at hlen ⊢
   have ew:lN ((α.free.length:Int) - 1) = ((α.free.length - 1:Nat):Int):=by rw [aQ (by omega)];omega
   simp only [aT,ew,Int.toNat_natCast,Nat.mul_one,add_eq,Nat.zero_add,eF,aC,aL]
   refine ⟨⟨by omega,by omega⟩,⟨by omega,by omega,by omega⟩,?_⟩
   refine gO W.c53 (hf.own List.mem_cons_self) (by simp) rfl rfl ?_
   rw [if_neg (by show ¬ (α.free.length + rest.length = 0);omega)]
   have hsub:nQ α.free ++ rest = nQ α.free.dropLast ++ (.int .i64 (c:Int)::rest):=by
    conv=>lhs;rw [hsplit]
    simp [nQ]
   have hdl:α.free.length = α.free.dropLast.length + 1:=by
    conv=>lhs;rw [hsplit]
    simp
   refine lay c _ α.never ⟨some ⟨bF,0,none⟩,α.free.dropLast.length,α.free.dropLast.length + (.int .i64 (c:Int)::rest).length⟩ α.free.dropLast [(bF,nQ α.free ++ rest,e)] hcn hnx ?_ ?_ ?_ ?_
   ·show α.take.never = _;rw [htake];rfl
   ·show α.take.free = _;rw [htake]
   ·have hrow:(arR bL α.n α.never ⟨some ⟨bF,0,none⟩,(nQ α.free).length,(nQ α.free).length + rest.length⟩ bM).set 2 (.slice (Option.map (fun (x:Addr)=>x.add ((0:Int).toNat * 1)) (some ⟨bF,0,none⟩)) (α.free.length - 1 - (0:Int).toNat) (α.free.length + rest.length - (0:Int).toNat)) =
      arR bL α.n α.never ⟨some ⟨bF,0,none⟩,α.free.dropLast.length,α.free.dropLast.length + (Value.int .i64 (c:Int)::rest).length⟩ bM:=by
     have g1:α.free.length - 1 - (0:Int).toNat = α.free.dropLast.length:=by simp
     have g2:α.free.length + rest.length - (0:Int).toNat = α.free.dropLast.length + (Value.int .i64 (c:Int)::rest).length:=by
      rw [List.length_cons,hdl];simp;omega
     rw [g1,g2];rfl
    have:=hf.upd (cs':=(arR bL α.n α.never ⟨some ⟨bF,0,none⟩,(nQ α.free).length,(nQ α.free).length + rest.length⟩ bM).set 2 (.slice (Option.map (fun (x:Addr)=>x.add ((0:Int).toNat * 1)) (some ⟨bF,0,none⟩)) (α.free.length - 1 - (0:Int).toNat) (α.free.length + rest.length - (0:Int).toNat))) (e':=145)
    rw [←hrow]
    exact this
   ·refine .inr ⟨bF,.int .i64 (c:Int)::rest,e,by simp [nQ],by rw [hsub]⟩
 ·rename_i hge
  rw [aQ (by omega)] at hge
  have hfree:α.free = []:=List.eq_nil_of_length_eq_zero (by omega)
  have hlast:α.free.getLast? = none:=by rw [hfree];rfl
  split
  ·rename_i hfull
   change (α.never:Int)≥(α.n:Int) at hfull
   have hnx:α.next = none:=by unfold AS.next;rw [hlast];simp only;rw [if_neg (by omega)]
   have htake:=(AS.xN hnx).1
   have hh:=h M1
   unfold AS.wC at hh
   rw [hnx,htake] at hh
   exact hh ⟨_,⟨hi,bL,bM,sf,cs,rf,rfl,hc,hsl⟩,hf⟩
  ·rename_i hfull
   change ¬ (α.never:Int)≥(α.n:Int) at hfull
   have hlt:α.never < α.n:=by omega
   have hnx:α.next = some α.never:=by unfold AS.next;rw [hlast];simp only;rw [if_pos hlt]
   have htake:α.take = { α.lay α.never with never:=α.never + 1 }:=by unfold AS.take;rw [hlast];simp only;rw [if_pos hlt]
   refine gO W.c3 (hf.own List.mem_cons_self) (by simp) rfl rfl ?_
   rw [aQ (by omega)]
   refine lay α.never _ (α.never + 1) sf α.free rf hlt hnx ?_ ?_ hf.upd hsl
   ·show α.take.never = _;rw [htake]
   ·show α.take.free = _;rw [htake];rfl
theorem aFY {a:Nat} {α:AS} (hA:aA w0 F M (aF a α)) {c:Int} (h:∀ M',aA w0 F M' (aF a (α.xA c).tick)→R (.bool (α.oC c)) M'):C PP w0 Id.oK #[.pointer (some ⟨a,0,none⟩),.int .i64 c] R M:=by
 have hInv:=hA.inv
 obtain ⟨bL',bM',sf',cs',hs,hs1,hA1⟩:=hA.aC9
 apply oK.go
 unfold oK.T aH
 simp only [go_sem,add_eq,Nat.zero_add,hs.r3]
 refine aAL hs.m hs.inv.steps.2 aDt (by omega) ?_
 clear hs
 generalize M.set bM' (.row (iC (kD α.steps 1) α.begun α.most) 163) = M1 at hA1 hs1 ⊢
 refine aBd hs1 ?_
 simp only [go_sem,tN]
 rw [aHn]
 refine ⟨fun h1=>?_,fun h1=>?_⟩
 ·change α.oC c = true at h1
  unfold AS.xA at h
  rw [if_pos h1,h1] at h
  obtain ⟨h5,h6,h7⟩:=AS.aBt hInv h1
  obtain ⟨c,rfl⟩:∃ k:Nat,c = (k:Int):=⟨c.toNat,by omega⟩
  simp only [Int.toNat_natCast] at h6 h7 h
  have hn:=hInv.never
  have hnn:=hInv.n
  have hInvl:=hInv.len
  have hcn:c < α.n:=by omega
  obtain ⟨r,⟨hi,bL,bM,sf,cs,rf,rfl,hc,hsl⟩,hf⟩:=hA1
  change Fit w0 F M1 ((a,arR bL α.n α.never sf bM,145)::(bL,cs,251)::(bM,iC (kD α.steps 1) α.begun α.most,163)::rf) at hf
  change pS sf (nQ α.free) rf at hsl
  have e0:rd w0 M1 ⟨a,0,none⟩ = some (.slice (some ⟨bL,0,none⟩) α.n α.n):=by rw [aN (hf.own List.mem_cons_self)];rfl
  simp only [e0,aC,sJ,aT,add_eq,Nat.zero_add,Int.toNat_natCast]
  refine ⟨⟨by omega,by omega⟩,?_⟩
  refine gO W.c4 (hf.own (List.mem_cons_of_mem _ List.mem_cons_self)) (by rw [hc.len];show c * 11 + 10 < 11 * α.n;omega) rfl rfl ?_
  have hf2:=((hf.perm (List.perm_middle (l₁:=[_]))).upd (cs':=cs.set (c * 11 + 10) (.bool false)) (e':=251)).perm (List.perm_middle (l₁:=[_])).symm
  generalize M1.set bL (.row (cs.set (c * 11 + 10) (.bool false)) 251) = M2 at hf2 ⊢
  have e2:rd w0 M2 ⟨a,2,none⟩ = some sf.v:=by rw [aN (hf2.own List.mem_cons_self)];rfl
  simp only [e2,aC,aM]
  have hf3:Fit w0 F M2 (rf ++ [(a,arR bL α.n α.never sf bM,145),(bL,cs.set (c * 11 + 10) (.bool false),251),(bM,iC (kD α.steps 1) α.begun α.most,163)]):=hf2.perm (List.perm_append_comm (l₁:=[_,_,_]))
  have hsl3:=hsl.sl hf3
  have hq:=hf3.perm List.perm_append_comm |>.drop
  have hle:=hf3.aside.1.fr
  rw [aCs] at hsl3
  refine aIv (cells:=#[.int .i64 (c:Int)]) hle Tryz.underlying53 W.e3 (n:=1) (by decide) (by kernel_rfl) rfl fun M3 o h3 h4 h9=>?_
  simp only [go_sem]
  refine aF2 (m:=[(c:Int)]) Tryz.underlying53 W.e3 h3 (hsl3.le h4) h9 (by simp;omega) fun M4 o2 h10 h11=>?_
  simp only [go_sem]
  rw [show (α.free.map fun (c:Nat)=>(c:Int)) ++ [(c:Int)] = ((α.free ++ [c]).map fun (c:Nat)=>(c:Int)) from by simp,←aCs] at h11
  obtain ⟨rf',hsl',hf'⟩:=Sl.fit h11 hq h10
  have hf5:=hf'.perm (List.perm_append_comm (l₂:=[_,_,_]))
  refine gO W.c53 (hf5.own List.mem_cons_self) (by simp) rfl rfl ?_
  refine h _ ⟨_,⟨AS.qJ (AS.aBC hInv h7),bL,bM,o2,cs.set (11 * c + 10) (.bool false),rf',rfl,(jP.mark (α:=α) ⟨hc.len,hc.f,hc.t⟩ hcn).tick,hsl'⟩,?_⟩
  rw [Nat.mul_comm 11 c]
  exact hf5.upd
 ·change α.oC c = false at h1
  unfold AS.xA at h
  rw [h1] at h
  exact h _ hA1
end
end HL
namespace HL
theorem m6:∀ (n:Nat) (l:List Nat),l.Nodup→(∀ x∈l,x < n)→l.length≤n:=by
 intro n
 induction n with
 | zero =>
  intro l _ h
  cases l with
  | nil=>exact Nat.le_refl _
  | cons x r=>have:=h x List.mem_cons_self;omega
 | succ n ih =>
  intro l hn h
  by_cases hm:n∈l
  ·have h1:=ih (l.erase n) (hn.erase n) (fun x hx=>by
    have h2:=(hn.mem_erase_iff).1 hx
    have:=h x h2.2;omega)
   rw [List.length_erase_of_mem hm] at h1;omega
  ·have:=ih l hn (fun x hx=>by
    have h1:=h x hx
    have h2:x≠n:=fun e=>hm (e▸hx)
    omega)
   omega
namespace AS
def Nx (α:AS) (x y:Nat):Prop:=α.get x 3 = (y:Int)∧α.get y 2 = (x:Int)
def seg (α:AS):List Nat→Prop
 | []=>True
 | [_]=>True
 | x::y::r=>α.Nx x y∧seg α (y::r)
structure Ring (α:AS) (c:Nat) (r:List Nat):Prop where
 nd:(c::r).Nodup
 live:∀ x∈c::r,α.live x = true
 seg:α.seg (c::r)
 back:α.Nx (r.getLastD c) c
theorem aCp {α β:AS}:∀ (l:List Nat),(∀ x∈l,β.get x 3 = α.get x 3)→(∀ x∈l,β.get x 2 = α.get x 2)→α.seg l→β.seg l
 | [],_,_,_=>trivial
 | [_],_,_,_=>trivial
 | x::y::r,h1,h2,h=>by
  refine ⟨⟨?_,?_⟩,aCp (y::r) (fun z hz=>h1 z (List.mem_cons_of_mem _ hz)) (fun z hz=>h2 z (List.mem_cons_of_mem _ hz)) h.2⟩
  ·rw [h1 x (by simp)];exact h.1.1
  ·rw [h2 y (by simp)];exact h.1.2
theorem xI (c:Nat):∀ (r:List Nat),r.getLastD c∈c::r:=by
 intro r
 induction r generalizing c with
 | nil=>simp
 | cons x r ih=>rw [List.getLastD_cons];exact List.mem_cons_of_mem _ (ih x)
theorem Ring.congr {α β:AS} {c:Nat} {r:List Nat} (h:α.Ring c r) (h3:∀ x∈c::r,β.get x 3 = α.get x 3) (h2:∀ x∈c::r,β.get x 2 = α.get x 2) (hl:∀ x∈c::r,β.live x = α.live x):β.Ring c r :=
 ⟨h.nd,fun x hx=>by rw [hl x hx];exact h.live x hx,aCp _ h3 h2 h.seg,by
  refine ⟨?_,?_⟩
  ·rw [h3 _ (xI c r)];exact h.back.1
  ·rw [h2 c List.mem_cons_self];exact h.back.2⟩
def link (α:AS) (c d:Nat):AS:=(α.put c 3 d).put d 2 c
end AS
end HL
namespace HL
namespace AS
structure Sm (k:Int) (α β:AS):Prop where
 n:β.n = α.n
 get:β.get = α.get
 live:β.live = α.live
 never:β.never = α.never
 free:β.free = α.free
 steps:0≤α.steps∧α.steps≤9223372036854775807→β.steps≤9223372036854775807∧α.steps≤β.steps∧β.steps≤α.steps + k
theorem Sm.refl {α:AS}:Sm 0 α α:=⟨rfl,rfl,rfl,rfl,rfl,fun h=>⟨h.2,by omega,by omega⟩⟩
theorem Sm.trans {j k:Int} {α β γ:AS} (h:Sm j α β) (h2:Sm k β γ):Sm (j + k) α γ :=
 ⟨h2.n.trans h.n,h2.get.trans h.get,h2.live.trans h.live,h2.never.trans h.never,h2.free.trans h.free,fun h0=>by have h1:=h.steps h0;have h3:=h2.steps ⟨by omega,h1.1⟩;omega⟩
theorem Sm.mono {j k:Int} {α β:AS} (h:Sm j α β) (hk:j≤k):Sm k α β:=⟨h.n,h.get,h.live,h.never,h.free,fun h0=>by have:=h.steps h0;omega⟩
theorem aO {α:AS}:Sm 1 α α.tick:=⟨rfl,rfl,rfl,rfl,rfl,fun h0=>by
 show kD α.steps 1≤9223372036854775807∧α.steps≤kD α.steps 1∧kD α.steps 1≤_
 unfold kD;split
 ·omega
 ·split <;> omega⟩
theorem Sm.put {k:Int} {α β:AS} (h:Sm k α β) (c f:Nat) (v:Int):Sm k (α.put c f v) (β.put c f v) :=
 ⟨h.n,by show (fun c' f'=>if c' = c∧f' = f then v else β.get c' f') = _;rw [h.get];rfl,h.live,h.never,h.free,h.steps⟩
theorem aCo {α:AS} {c f:Nat} (h:α.live c = true) (hf:f < 10):α.xZ (c:Int) (f:Int) = true:=by
 unfold xZ oC
 rw [Int.toNat_natCast,h,decide_eq_true (by omega),decide_eq_true (by omega),decide_eq_true (by omega)];rfl
theorem cU {α:AS} {c f:Nat} (h:α.live c = true) (hf:f < 10) (v:Int):α.mC (c:Int) (f:Int) v = α.put c f v:=by
 unfold mC
 rw [if_pos (aCo h hf),Int.toNat_natCast,Int.toNat_natCast]
theorem iV {α:AS} {c f:Nat} (h:α.live c = true) (hf:f < 10):α.jW (c:Int) (f:Int) = α.get c f:=by
 unfold jW
 rw [if_pos (aCo h hf),Int.toNat_natCast,Int.toNat_natCast]
theorem dI {α:AS} {c f y:Nat} (h:α.live c = true) (hf:f < 10) (hv:α.get c f = (y:Int)) (hy:y < α.n):α.fR (c:Int) (f:Int) = (y:Int):=by
 unfold fR
 rw [iV h hf,hv,if_neg (by omega)]
theorem uQ {α:AS} {c:Nat}:α.oC (c:Int) = α.live c:=by
 unfold oC
 rw [Int.toNat_natCast,decide_eq_true (by omega)];rfl
theorem cJ {α:AS} (h:α.Inv) {c:Nat} (hc:α.live c = true):c < α.n:=by
 have:=aBD h hc
 have:=h.never;omega
end AS
section
variable {w0:World} {M F:Mem} {R:VP}
theorem aA.sl {s:SV} {l:List Value} {Q:cI} (h:aA w0 F M (star (pS s l) Q)):∃ F',Sl w0 F' M s l∧Mem.le F' M∧∀ M' s' l',Sl w0 F' M' s' l'→Mem.le F' M'→aA w0 F M' (star (pS s' l') Q):=by
 obtain ⟨r,⟨r1,r2,rfl,h1,h2⟩,h3⟩:=h
 refine ⟨ext F r2,h1.sl h3,h3.aside.1.fr,fun M' s' l' hs hl=>?_⟩
 obtain ⟨r',h4,h5⟩:=Sl.fit hs ((h3.perm List.perm_append_comm).drop) hl
 exact ⟨_,⟨r',r2,rfl,h4,h2⟩,h5⟩
theorem aA.aMs {P:cI} {M':Mem} {s:SV} {l:List Value} (h:aA w0 F M P) (hl:Mem.le M M') (hs:Sl w0 M M' s l):aA w0 F M' (star (pS s l) P):=by
 refine h.beside ?_
 rcases hs with ⟨rfl,rfl⟩ | ⟨b,rest,e,rfl,h1,h2⟩
 ·exact ⟨[],.inl ⟨rfl,rfl,rfl⟩,Fit.nil hl⟩
 ·refine ⟨[(b,l ++ rest,e)],.inr ⟨b,rest,e,rfl,rfl⟩,⟨by simp,fun x hx=>?_,hl⟩⟩
  simp at hx;subst hx
  exact ⟨h2.1,h1,h2.2⟩
theorem aA.rdI {Q:cI} {s:SV} {l:List Int} (h:aA w0 F M (star (pS s (l.map (Value.int .i64))) Q)) (hw:∀ n∈l,(Lit.int .i64 n).wf = true) (hm:l.length≤1000000):qO w0 M .i64 s l:=by
 obtain ⟨F',h1,_⟩:=h.sl
 exact h1.rdI hw (by omega)
theorem aA.aFw {P:cI} (h:aA w0 F M P):aA w0 F M (star (pS ⟨none,0,0⟩ []) P):=by
 obtain ⟨r,h1,h2⟩:=h
 exact ⟨r,⟨[],r,rfl,pS.nil,h1⟩,h2⟩
theorem zD {Q:cI} {K:SV→Mem→Prop} {s:SV} {l:List Int} {x:Int} (hH:aA w0 F M (star (pS s (l.map (Value.int .i64))) Q)) (hb:l.length≤1000000) (h:∀ M' s',aA w0 F M' (star (pS s' ((l ++ [x]).map (Value.int .i64))) Q)→K s' M') :
  (aJ PP w0).bsl 53 1 [(0,.int .i64 x)] (fun v M1=>shS v fun s1=>(aJ PP w0).app #[53,53] 53 [SV.v s,SV.v s1] (fun v2 M2=>shS v2 fun s2=>K s2 M2) M1) M:=by
 obtain ⟨F',h1,h2,h3⟩:=hH.sl
 refine aBE (k:=.i64) (l:=[x]) h2 Tryz.underlying53 W.e3 (n:=1) (by decide) (by kernel_rfl) rfl fun M1 o l1 l2 h4=>?_
 simp only [go_sem]
 refine aF2 Tryz.underlying53 W.e3 l1 (h1.le l2) h4 (by simp;omega) fun M2 o2 l3 h5=>?_
 simp only [go_sem]
 exact h M2 o2 (h3 M2 o2 _ h5 l3)
def aY (l:List Nat):List Int:=l.map fun (c:Nat)=>(c:Int)
end
end HL
end Go.Proofs.YtodobkbnmjgkdaaGreat
