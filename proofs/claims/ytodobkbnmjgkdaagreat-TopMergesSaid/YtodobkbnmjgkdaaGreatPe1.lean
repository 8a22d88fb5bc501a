import Derived.Test.YtodobkbnmjgkdaaGreatPe0
namespace Go.Proofs.YtodobkbnmjgkdaaGreat
open Go.RowKit (Below)
set_option linter.unusedVariables false
set_option linter.unusedSimpArgs false
namespace HL
abbrev Env := List (Nat × Value)
def Env.get (s : Nat) : Env → Option Value
  | [] => none
  | (t, v) :: r => match Nat.beq t s with
    | true => some v
    | false => Env.get s r
def Env.put (d : Option Nat) (v : Value) (env : Env) : Env := match d with
  | some s => (s, v) :: env
  | none => env
def ev (env : Env) : Operand → Option Value
  | .tmp t => env.get t
  | .const v => some v
  | .global g => some (.pointer (some ⟨g, 0, none⟩))
  | .func f => some (.func (.func f) #[] #[])
def m9 (env : Env) (x : Operand) : Value := match ev env x with
  | some v => v
  | none => undef
def uI (env : Env) (o : Oper) : Bool := o.op.operands.toList.all fun x => (ev env x).isSome
def pD (N : Nat) (env : Env) (a : Act) : Prop := a.tmps.size = N ∧ a.defers = [] ∧ ∀ s v, env.get s = some v → a.tmps[s]? = some v
theorem Env.wY (s t : Nat) (v : Value) (r : Env) : Env.get s ((t, v) :: r) = if t = s then some v else Env.get s r := by
  simp only [Env.get]
  by_cases h : t = s
  · subst h
    have : Nat.beq t t = true := Nat.beq_refl t
    simp only [this, if_true]
  · have : Nat.beq t s = false := by
      cases hb : Nat.beq t s with
      | false => rfl
      | true => exact absurd (Nat.eq_of_beq_eq_true hb) h
    simp only [this, if_neg h]
theorem pD.put {N : Nat} {env : Env} {a : Act} (h : pD N env a) (d : Option Nat) (v : Value) (hd : ∀ s, d = some s → s < N) : pD N (env.put d v) (a.put d v) := by
  obtain ⟨h1, h2, h3⟩ := h
  cases d with
  | none => exact ⟨h1, h2, h3⟩
  | some s =>
    have hs := hd s rfl
    refine ⟨by simp [Act.put, h1], by simpa [Act.put] using h2, fun t u ht => ?_⟩
    simp only [Env.put, Env.wY] at ht
    simp only [Act.put]
    split at ht
    · rename_i e; subst e; cases ht; rw [Array.getElem?_setIfInBounds]; simp [h1, hs]
    · rename_i e; rw [Array.getElem?_setIfInBounds]; rw [if_neg e]; exact h3 t u ht
theorem pD.eval {N : Nat} {env : Env} {a : Act} (h : pD N env a) {x : Operand} (hx : (ev env x).isSome = true) : a.eval x = m9 env x := by
  cases x with
  | tmp t =>
    simp only [ev] at hx
    obtain ⟨v, hv⟩ := Option.isSome_iff_exists.1 hx
    have := h.2.2 t v hv
    simp [Act.eval, m9, ev, hv, this]
  | const v => rfl
  | global g => rfl
  | func f => rfl
theorem pD.exec {N : Nat} {env : Env} {a : Act} (h : pD N env a) {o : Oper} (hk : uI env o = true) (hs : ∀ cs b, o.op ≠ .select cs b) :
    execOp a.eval o = execOp (m9 env) o :=
  execOp_congr o hs fun x hx => h.eval (by
    have := List.all_eq_true.1 hk x (by simpa using hx)
    exact this)
structure SV where
  a : Option Addr
  n : Nat
  c : Nat
def SV.v (s : SV) : Value := .slice s.a s.n s.c
inductive K1 where
  | i (k : IntKind) | b | p | s | any
def mZ (k : IntKind) (v : Value) (K : Int → Prop) : Prop := match v with
  | .int k' n => if k' = k then K n else False
  | _ => False
def shB (v : Value) (K : Bool → Prop) : Prop := match v with
  | .bool b => K b
  | _ => False
def shP (v : Value) (K : Option Addr → Prop) : Prop := match v with
  | .pointer a => K a
  | _ => False
def shS (v : Value) (K : SV → Prop) : Prop := match v with
  | .slice a n c => K ⟨a, n, c⟩
  | _ => False
def sh1 : K1 → Value → (Value → Prop) → Prop
  | .i k, v, K => mZ k v fun n => K (.int k n)
  | .b, v, K => shB v fun b => K (.bool b)
  | .p, v, K => shP v fun a => K (.pointer a)
  | .s, v, K => shS v fun s => K s.v
  | .any, v, K => K v
def cM (l : List Value) (K : Value → List Value → Prop) : Prop := match l with
  | v :: r => K v r
  | [] => False
def oY (l : List Value) (K : Prop) : Prop := match l with
  | [] => K
  | _ => False
def shL : List K1 → List Value → (List Value → Prop) → Prop
  | [], vs, K => oY vs (K [])
  | k :: ks, vs, K => cM vs fun v r => sh1 k v fun v' => shL ks r fun l => K (v' :: l)
def shA (v : Value) (K : List Value → Prop) : Prop := match v with
  | .agg cs => K cs.toList
  | _ => False
def shT (v : Value) (K : List Value → Prop) : Prop := match v with
  | .tuple cs => K cs.toList
  | _ => False
def aEy : Option TypeDesc → K1
  | some (.int k) => .i k
  | some .bool => .b
  | some (.pointer _) => .p
  | some (.slice _) => .s
  | _ => .any
def kinds (P : Program) : Nat → TypeId → List K1
  | 0, _ => []
  | d + 1, t => match P.underlying t with
    | some (.struct fs) => fs.toList.flatMap fun f => kinds P d f.type
    | some (.array n e) => (List.replicate n (kinds P d e)).flatten
    | x => [aEy x]
def shC (P : Program) (t : TypeId) (v : Value) (K : Value → Prop) : Prop := match P.underlying t with
  | some (.struct _) => shA v fun l => shL (kinds P 8 t) l fun l' => K (.agg l'.toArray)
  | some (.array _ _) => shA v fun l => shL (kinds P 8 t) l fun l' => K (.agg l'.toArray)
  | x => sh1 (aEy x) v K
def aIY (P : Program) : List TypeId → List Value → (List Value → Prop) → Prop
  | [], vs, K => oY vs (K [])
  | t :: ts, vs, K => cM vs fun v r => shC P t v fun v' => aIY P ts r fun l => K (v' :: l)
def shV (P : Program) (t : TypeId) (v : Value) (K : Value → Prop) : Prop := match P.underlying t with
  | some (.tuple ts) => shT v fun l => aIY P ts.toList l fun l' => K (.tuple l'.toArray)
  | _ => shC P t v K
def shO (P : Program) (t : TypeId) (v : Value) (K : Value → Prop) : Prop := match t with
  | 0 => K v
  | t + 1 => shV P (t + 1) v K
theorem aKz {k : IntKind} {v : Value} {K : Int → Prop} (h : mZ k v K) : ∃ n, v = .int k n ∧ K n := by
  unfold mZ at h; split at h
  · split at h
    · rename_i e; subst e; exact ⟨_, rfl, h⟩
    · exact h.elim
  · exact h.elim
theorem aAI {v : Value} {K : Bool → Prop} (h : shB v K) : ∃ n, v = .bool n ∧ K n := by
  unfold shB at h; split at h
  · exact ⟨_, rfl, h⟩
  · exact h.elim
theorem aJO {v : Value} {K : Option Addr → Prop} (h : shP v K) : ∃ n, v = .pointer n ∧ K n := by
  unfold shP at h; split at h
  · exact ⟨_, rfl, h⟩
  · exact h.elim
theorem aJD {v : Value} {K : SV → Prop} (h : shS v K) : ∃ n : SV, v = n.v ∧ K n := by
  unfold shS at h; split at h
  · exact ⟨⟨_, _, _⟩, rfl, h⟩
  · exact h.elim
theorem aFG {k : K1} {v : Value} {K : Value → Prop} (h : sh1 k v K) : K v := by
  cases k <;> simp only [sh1] at h
  · obtain ⟨n, rfl, h'⟩ := aKz h; exact h'
  · obtain ⟨n, rfl, h'⟩ := aAI h; exact h'
  · obtain ⟨n, rfl, h'⟩ := aJO h; exact h'
  · obtain ⟨n, rfl, h'⟩ := aJD h; exact h'
  · exact h
theorem aB9 {l : List Value} {K : Prop} (h : oY l K) : l = [] ∧ K := by
  cases l with
  | nil => exact ⟨rfl, h⟩
  | cons => exact h.elim
theorem aAZ {l : List Value} {K : Value → List Value → Prop} (h : cM l K) : ∃ v r, l = v :: r ∧ K v r := by
  cases l with
  | nil => exact h.elim
  | cons v r => exact ⟨v, r, rfl, h⟩
theorem aGk {ks : List K1} : ∀ {l : List Value} {K : List Value → Prop}, shL ks l K → K l := by
  induction ks with
  | nil => intro l K h; simp only [shL] at h; obtain ⟨rfl, h'⟩ := aB9 h; exact h'
  | cons k ks ih =>
    intro l K h
    simp only [shL] at h
    obtain ⟨v, r, rfl, h'⟩ := aAZ h
    have h2 := ih (aFG h')
    exact h2
theorem aF0 {v : Value} {K : List Value → Prop} (h : shA v K) : ∃ cs, v = .agg cs ∧ K cs.toList := by
  unfold shA at h; split at h
  · exact ⟨_, rfl, h⟩
  · exact h.elim
theorem aKe {v : Value} {K : List Value → Prop} (h : shT v K) : ∃ cs, v = .tuple cs ∧ K cs.toList := by
  unfold shT at h; split at h
  · exact ⟨_, rfl, h⟩
  · exact h.elim
theorem aF9 {P : Program} {t : TypeId} {v : Value} {K : Value → Prop} (h : shC P t v K) : K v := by
  unfold shC at h; split at h
  · obtain ⟨cs, rfl, h'⟩ := aF0 h; exact aGk h'
  · obtain ⟨cs, rfl, h'⟩ := aF0 h; exact aGk h'
  · exact aFG h
theorem aIw {P : Program} {ts : List TypeId} : ∀ {l : List Value} {K : List Value → Prop}, aIY P ts l K → K l := by
  induction ts with
  | nil => intro l K h; simp only [aIY] at h; obtain ⟨rfl, h'⟩ := aB9 h; exact h'
  | cons k ks ih =>
    intro l K h
    simp only [aIY] at h
    obtain ⟨v, r, rfl, h'⟩ := aAZ h
    have h2 := ih (aF9 h')
    exact h2
theorem aKc {P : Program} {t : TypeId} {v : Value} {K : Value → Prop} (h : shV P t v K) : K v := by
  unfold shV at h; split at h
  · obtain ⟨cs, rfl, h'⟩ := aKe h; exact aIw h'
  · exact aF9 h
theorem zW {P : Program} {t : TypeId} {v : Value} {K : Value → Prop} (h : shO P t v K) : K v := by
  cases t with
  | zero => exact h
  | succ t => exact aKc h
def bs (b : Bool) (A B : Prop) : Prop := match b with
  | true => A
  | false => B
theorem dZ (A B : Prop) : bs true A B = A := rfl
theorem mE (A B : Prop) : bs false A B = B := rfl
theorem aEW {b : Bool} {A B : Prop} (h : bs b A B) : (b = true ∧ A) ∨ (b = false ∧ B) := by cases b <;> simp_all [bs]
theorem cR (p : Prop) [Decidable p] (A B : Prop) : bs (decide p) A B = if p then A else B := by
  by_cases h : p <;> simp [h, bs]
def nc (p : Option Addr) (K : Addr → Prop) : Prop := match p with
  | some a => K a
  | none => False
theorem aK1 {p : Option Addr} {K : Addr → Prop} (h : nc p K) : ∃ a, p = some a ∧ K a := by
  cases p with
  | none => exact h.elim
  | some a => exact ⟨a, rfl, h⟩
def ob {α : Type} (x : Option α) (K : α → Prop) : Prop := match x with
  | some v => K v
  | none => False
theorem aBc {α : Type} {x : Option α} {K : α → Prop} (h : ob x K) : ∃ v, x = some v ∧ K v := by
  cases x with
  | none => exact h.elim
  | some a => exact ⟨a, rfl, h⟩
section
variable (P : Program)
def dT {α : Type} : Sem α → Option α
  | .pure a => some a
  | .program k => dT (k P)
  | _ => none
variable {P}
theorem uT {α : Type} {s : Sem α} {a : α} (h : dT P s = some a) (w : World) : s.run P w = .ok a w := by
  induction s with
  | pure x => simp only [dT] at h; cases h; rfl
  | program k ih => simp only [dT] at h; simp only [Sem.run]; exact ih P h
  | _ => simp [dT] at h
end
def aEt (ρ : Operand → Value) (o : Oper) : Option (Sem Value) := match o.op with
  | .move x => some (pure (ρ x))
  | .assign x => some (pure (ρ x))
  | .load t a => some (Instr.loadAt t (ρ a))
  | .binOp op t x y _ => some (do eqGuard op t x y (ρ x) (ρ y); binOp op t (ρ x) (ρ y))
  | .unOp op _ x => some (Op.unary op (ρ x))
  | .convert s d x => some (convert s d (ρ x))
  | .fieldAddr s x f => some (Instr.fieldAt s (ρ x) f)
  | .indexAddr t x i => some (Instr.indexAt t (ρ x) (ρ i))
  | .field t x f => some (Instr.field t (ρ x) f)
  | .index t x i => some (Instr.index t (ρ x) (ρ i))
  | .build t parts => some (Instr.build t (parts.toList.map fun p => (p.1, ρ p.2)).toArray)
  | .makeFunc fn a b => some (Instr.makeFunc fn (a.toList.map ρ).toArray (b.toList.map ρ).toArray)
  | .makeInterface t x => some (Instr.makeInterface t (ρ x))
  | .extract t i => some (Instr.extract (ρ t) i)
  | .lookup t x i ok => some (Instr.lookup t (ρ x) (ρ i) ok)
  | .slice t x lo hi mx => some (Instr.sliceAt t (ρ x) (lo.map ρ) (hi.map ρ) (mx.map ρ))
  | .call ⟨.builtin .len, args, tys⟩ => some (Builtin.len_ tys o.type (args.toList.map ρ).toArray)
  | .call ⟨.builtin .cap, args, tys⟩ => some (Builtin.cap_ tys o.type (args.toList.map ρ).toArray)
  | .call ⟨.builtin .min, args, tys⟩ => some (Builtin.min_ tys o.type (args.toList.map ρ).toArray)
  | .call ⟨.builtin .max, args, tys⟩ => some (Builtin.max_ tys o.type (args.toList.map ρ).toArray)
  | _ => none
def vH (ρ : Operand → Value) (o : Oper) : Option (Sem Value) := match o.op with
  | .alloc e => some (Instr.alloc e true (.tuple #[]))
  | .box e x => some (Instr.box e (ρ x))
  | .buildSlice t n parts => some (Instr.buildSlice t n (parts.toList.map fun p => (p.1, ρ p.2)).toArray)
  | .makeSlice t l c => some (Instr.makeSlice t (ρ l) (ρ c))
  | .makeMap t r => some (Instr.makeMap t (r.map ρ))
  | .mapEntry t m k => some (Instr.mapEntry t (ρ m) (ρ k))
  | .call ⟨.builtin .append, args, tys⟩ => some (Builtin.append_ tys o.type (args.toList.map ρ).toArray)
  | .call ⟨.builtin .copy, args, tys⟩ => some (Builtin.copy_ tys o.type (args.toList.map ρ).toArray)
  | .call ⟨.builtin .delete, args, tys⟩ => some (Builtin.delete_ tys o.type (args.toList.map ρ).toArray)
  | .call ⟨.builtin .clear, args, tys⟩ => some (Builtin.clear_ tys o.type (args.toList.map ρ).toArray)
  | _ => none
def aEm (ρ : Operand → Value) (o : Oper) : Option (Sem Unit) := match o.op with
  | .store t a x => some (Instr.storeAt t (ρ a) (ρ x))
  | .mapUpdate t m k x => some (Instr.mapUpdate t (ρ m) (ρ k) (ρ x))
  | .insert t m k x => some (Instr.mapUpdate t (ρ m) (ρ k) (ρ x))
  | .entryStore t m k x => some (Instr.entryStore t (ρ m) (ρ k) (ρ x))
  | _ => none
theorem uJ {α β : Type} (f : α → β) (a : Array α) : (a.toList.map f).toArray = a.map f := by
  rw [← Array.toList_map]
theorem aAp {ρ : Operand → Value} {o : Oper} {s : Sem Value} (h : aEt ρ o = some s) : execOp ρ o = (do pure (.value (← s))) := by
  obtain ⟨dst, op, type, pos, after, guard⟩ := o
  cases op with
  | call c =>
    obtain ⟨cal, args, tys⟩ := c
    cases cal with
    | builtin b => cases b <;> simp only [aEt, Option.some.injEq, reduceCtorEq] at h <;> subst h <;> rw [uJ] <;> rfl
    | _ => simp [aEt] at h
  | build t ps => simp only [aEt, Option.some.injEq] at h; subst h; rw [uJ]; rfl
  | makeFunc fn a b => simp only [aEt, Option.some.injEq] at h; subst h; rw [uJ, uJ]; rfl
  | _ => first | (simp only [aEt, Option.some.injEq] at h; subst h; rfl) | (simp [aEt] at h)
theorem aCG {ρ : Operand → Value} {o : Oper} {s : Sem Value} (h : vH ρ o = some s) : execOp ρ o = (do pure (.value (← s))) := by
  obtain ⟨dst, op, type, pos, after, guard⟩ := o
  cases op with
  | call c =>
    obtain ⟨cal, args, tys⟩ := c
    cases cal with
    | builtin b => cases b <;> simp only [vH, Option.some.injEq, reduceCtorEq] at h <;> subst h <;> rw [uJ] <;> rfl
    | _ => simp [vH] at h
  | buildSlice t n ps => simp only [vH, Option.some.injEq] at h; subst h; rw [uJ]; rfl
  | _ => first | (simp only [vH, Option.some.injEq] at h; subst h; rfl) | (simp [vH] at h)
theorem aHd {ρ : Operand → Value} {o : Oper} {s : Sem Unit} (h : aEm ρ o = some s) : execOp ρ o = (do s; pure .skip) := by
  obtain ⟨dst, op, type, pos, after, guard⟩ := o
  cases op <;> first | (simp only [aEm, Option.some.injEq] at h; subst h; rfl) | (simp [aEm] at h)
theorem gZ {P : Program} {s : Sem Value} {w w' : World} {v : Value} (h : s.run P w = .ok v w') : (do pure (Next.value (← s)) : Sem Next).run P w = .ok (.value v) w' := by
  show (s.bind fun v => Sem.pure (Next.value v)).run P w = _
  rw [Sem.run_bind', h]; rfl
theorem aHx {P : Program} {s : Sem Unit} {w w' : World} (h : s.run P w = .ok () w') : (do s; pure Next.skip : Sem Next).run P w = .ok .skip w' := by
  show (s.bind fun _ => Sem.pure Next.skip).run P w = _
  rw [Sem.run_bind', h]; rfl
section
variable (P : Program) (w0 : World)
def oO (f : FuncId) : Bool := match P.funcs[f]? with
  | some fn => !(fn.name == "runtime.NumGoroutine") && !fn.body.isNone
  | none => false
def Ext (f : FuncId) (args : Array Value) (R : Value → Mem → Prop) (M : Mem) : Prop :=
  ∀ w, Rel w0 M w → ∃ v w' M', (callFunc f args).run P w = .ok (.value v) w' ∧ R v M' ∧ Rel w0 M' w'
def C (f : FuncId) (args : Array Value) (R : Value → Mem → Prop) (M : Mem) : Prop :=
  (oO P f = true ∧ ∀ w, Rel w0 M w → Calls P f args w fun e w' => ∃ v M', e = .returned v ∧ R v M' ∧ Rel w0 M' w') ∨ Ext P w0 f args R M
variable {P w0}
theorem C.mono {f : FuncId} {args : Array Value} {R R' : Value → Mem → Prop} {M : Mem} (h : C P w0 f args R M) (hr : ∀ v M', R v M' → R' v M') : C P w0 f args R' M := by
  rcases h with h | h
  · exact .inl ⟨h.1, fun w hw => (h.2 w hw).mono fun _ _ ⟨v, M', he, hR, hrel⟩ => ⟨v, M', he, hr _ _ hR, hrel⟩⟩
  · exact .inr fun w hw => by
      obtain ⟨v, w', M', h1, h2, h3⟩ := h w hw
      exact ⟨v, w', M', h1, hr _ _ h2, h3⟩
theorem C.drop {f : FuncId} {args : Array Value} {R : Value → Mem → Prop} {M : Mem} (h : C P w0 f args (fun v M' => ∃ M'', Mem.le M'' M' ∧ R v M'') M) : C P w0 f args R M := by
  rcases h with h | h
  · exact .inl ⟨h.1, fun w hw => (h.2 w hw).mono fun _ _ ⟨v, _, he, ⟨M'', hl, hR⟩, hrel⟩ => ⟨v, M'', he, hR, hrel.mono hl⟩⟩
  · exact .inr fun w hw => by
      obtain ⟨v, w', M', h1, ⟨M'', hl, h2⟩, h3⟩ := h w hw
      exact ⟨v, w', M'', h1, h2, h3.mono hl⟩
def ixS (x : Value) (n : Int) (size : Nat) (K : Value → Prop) : Prop := match x with
  | .slice base len _ => nc base fun a => (0 ≤ n ∧ n < (len : Int)) ∧ K (.pointer (some (a.add (n.toNat * size))))
  | _ => False
def ixR (len : Nat) (x : Value) (n : Int) (size : Nat) (K : Value → Prop) : Prop := match x with
  | .pointer (some a) => (0 ≤ n ∧ n < (len : Int)) ∧ K (.pointer (some (a.add (n.toNat * size))))
  | _ => False
def ixA (P : Program) (t : TypeId) (x i : Value) (K : Value → Prop) : Prop := match i with
  | .int _ n => match P.underlying t with
    | some (.slice e) => match P.info? e with
      | some i => ixS x n i.size K
      | none => False
    | some (.array m e) => match P.info? e with
      | some i => ixR m x n i.size K
      | none => False
    | _ => False
  | _ => False
theorem aG9 {t : TypeId} {x i : Value} {K : Value → Prop} (h : ixA P t x i K) :
    ∃ v, K v ∧ ∀ w, (Instr.indexAt t x i).run P w = .ok v w := by
  unfold ixA at h
  split at h
  · rename_i k n
    split at h
    · rename_i e hu
      split at h
      · rename_i inf hi
        unfold ixS at h
        split at h
        · obtain ⟨a, rfl, ⟨h1, h2⟩, hK⟩ := aK1 h
          refine ⟨_, hK, fun w => ?_⟩
          simp [Instr.indexAt, asIntOf, underlying, program, hu, Sem.run, h1, h2, sizeOf, typeInfo, hi]
        · exact h.elim
      · exact h.elim
    · rename_i m e hu
      split at h
      · rename_i inf hi
        unfold ixR at h
        split at h
        · obtain ⟨⟨h1, h2⟩, hK⟩ := h
          refine ⟨_, hK, fun w => ?_⟩
          simp [Instr.indexAt, asIntOf, underlying, program, hu, Sem.run, h1, h2, sizeOf, typeInfo, hi, Instr.sureAddr]
        · exact h.elim
      · exact h.elim
    · exact h.elim
  · exact h.elim
def p3 (v : Option Value) (d : Int) : Option Int := match v with
  | none => some d
  | some (.int _ n) => some n
  | _ => none
def aLK (x : Value) (lo hi : Option Value) (size : Nat) (K : Value → Prop) : Prop := match x with
  | .slice a len cap => match p3 hi len, p3 lo 0 with
    | some h, some l => (0 ≤ l ∧ l ≤ h ∧ h ≤ (cap : Int)) ∧
      K (.slice (if cap = l.toNat then a else a.map (·.add (l.toNat * size))) (h.toNat - l.toNat) (cap - l.toNat))
    | _, _ => False
  | _ => False
def aLU (P : Program) (t : TypeId) (x : Value) (lo hi : Option Value) (K : Value → Prop) : Prop := match P.underlying t with
  | some (.slice e) => match P.info? e with
    | some i => aLK x lo hi i.size K
    | none => False
  | _ => False
theorem aFd {t : TypeId} {x : Value} {lo hi : Option Value} {K : Value → Prop} (h : aLU P t x lo hi K) :
    ∃ v, K v ∧ ∀ w, (Instr.sliceAt t x lo hi none).run P w = .ok v w := by
  unfold aLU at h
  split at h
  · rename_i e hu
    obtain ⟨inf, hinf, hc⟩ : ∃ inf, P.info? e = some inf ∧ aLK x lo hi inf.size K := by
      split at h
      · rename_i inf hinf; exact ⟨inf, hinf, h⟩
      · exact h.elim
    unfold aLK at hc
    cases x with
    | slice a len cap =>
      obtain ⟨hh, l, hhi, hlo, ⟨h1, h2, h3⟩, hK⟩ : ∃ hh l, p3 hi len = some hh ∧ p3 lo 0 = some l ∧ (0 ≤ l ∧ l ≤ hh ∧ hh ≤ (cap : Int)) ∧
          K (.slice (if cap = l.toNat then a else a.map (·.add (l.toNat * inf.size))) (hh.toNat - l.toNat) (cap - l.toNat)) := by
        simp only at hc
        split at hc
        · rename_i hh l h1 h2; exact ⟨hh, l, h1, h2, hc⟩
        · exact hc.elim
      refine ⟨_, hK, fun w => ?_⟩
      have hl0 : 0 ≤ hh := by omega
      have hb : (Instr.sliceBounds true len cap lo hi none).run P w = .ok (l.toNat, hh.toNat, cap) w := by
        have e1 : ((hh.toNat : Nat) : Int) = hh := Int.toNat_of_nonneg hl0
        cases hi with
        | none =>
          simp only [p3, Option.some.injEq] at hhi; subst hhi
          cases lo with
          | none => simp only [p3, Option.some.injEq] at hlo; subst hlo; simp [Instr.sliceBounds, Sem.run]
          | some lv =>
            cases lv <;> simp only [p3, Option.some.injEq, reduceCtorEq] at hlo
            subst hlo
            simp [Instr.sliceBounds, Instr.sliceBound, asIntOf, Sem.run, h1, h2]
        | some hv =>
          cases hv <;> simp only [p3, Option.some.injEq, reduceCtorEq] at hhi
          subst hhi
          cases lo with
          | none => simp only [p3, Option.some.injEq] at hlo; subst hlo; simp [Instr.sliceBounds, Instr.sliceBound, asIntOf, Sem.run, hl0, h3]
          | some lv =>
            cases lv <;> simp only [p3, Option.some.injEq, reduceCtorEq] at hlo
            subst hlo
            simp [Instr.sliceBounds, Instr.sliceBound, asIntOf, Sem.run, hl0, h3, h1, e1, h2]
      simp [Instr.sliceAt, Instr.slice, underlying, program, hu, Sem.run, hb, sizeOf, typeInfo, hinf]
    | _ => exact hc.elim
  · exact h.elim
def aIh (x : Value) (lo : Option Value) (hi mx : Value) (size : Nat) (K : Value → Prop) : Prop := match x with
  | .slice a len cap => match hi with
    | .int _ h => match mx with
      | .int _ m => match p3 lo 0 with
        | some l => (0 ≤ l ∧ l ≤ h ∧ h ≤ m ∧ m ≤ (cap : Int)) ∧
          K (.slice (if m.toNat = l.toNat then a else a.map (·.add (l.toNat * size))) (h.toNat - l.toNat) (m.toNat - l.toNat))
        | none => False
      | _ => False
    | _ => False
  | _ => False
def aHC (P : Program) (t : TypeId) (x : Value) (lo : Option Value) (hi mx : Value) (K : Value → Prop) : Prop := match P.underlying t with
  | some (.slice e) => match P.info? e with
    | some i => aIh x lo hi mx i.size K
    | none => False
  | _ => False
theorem aDC {t : TypeId} {x hi mx : Value} {lo : Option Value} {K : Value → Prop} (h : aHC P t x lo hi mx K) :
    ∃ v, K v ∧ ∀ w, (Instr.sliceAt t x lo (some hi) (some mx)).run P w = .ok v w := by
  unfold aHC at h
  split at h
  · rename_i e hu
    obtain ⟨inf, hinf, hc⟩ : ∃ inf, P.info? e = some inf ∧ aIh x lo hi mx inf.size K := by
      split at h
      · rename_i inf hinf; exact ⟨inf, hinf, h⟩
      · exact h.elim
    unfold aIh at hc
    split at hc
    · rename_i a len cap
      split at hc
      · rename_i k1 hh
        split at hc
        · rename_i k2 m
          split at hc
          · rename_i l hlo
            obtain ⟨⟨h1, h2, h3, h4⟩, hK⟩ := hc
            refine ⟨_, hK, fun w => ?_⟩
            have hl0 : 0 ≤ hh := by omega
            have hm0 : 0 ≤ m := by omega
            have e1 : ((hh.toNat : Nat) : Int) = hh := Int.toNat_of_nonneg hl0
            have e2 : ((m.toNat : Nat) : Int) = m := Int.toNat_of_nonneg hm0
            have hb : (Instr.sliceBounds true len cap lo (some (.int k1 hh)) (some (.int k2 m))).run P w = .ok (l.toNat, hh.toNat, m.toNat) w := by
              cases lo with
              | none => simp only [p3, Option.some.injEq] at hlo; subst hlo; simp [Instr.sliceBounds, Instr.sliceBound, asIntOf, Sem.run, hl0, hm0, h3, h4, e1, e2]
              | some lv =>
                cases lv <;> simp only [p3, Option.some.injEq, reduceCtorEq] at hlo
                subst hlo
                simp [Instr.sliceBounds, Instr.sliceBound, asIntOf, Sem.run, hl0, hm0, h3, h4, h1, e1, e2, h2]
            simp [Instr.sliceAt, Instr.slice, underlying, program, hu, Sem.run, hb, sizeOf, typeInfo, hinf]
          · exact hc.elim
        · exact hc.elim
      · exact hc.elim
    · exact hc.elim
  · exact h.elim
def aIK (op : BinOp) (x y : Value) (K : Value → Prop) : Option Prop := match op, x, y with
  | .quo, .int k a, .int k' b => some (k = k' ∧ b ≠ 0 ∧ K (.int k (k.wrap (a.tdiv b))))
  | .rem, .int k a, .int k' b => some (k = k' ∧ b ≠ 0 ∧ K (.int k (a.tmod b)))
  | .shl, .int k a, .int _ b => some (0 ≤ b ∧ K (.int k (k.wrap (a * 2 ^ (min b.toNat k.bits)))))
  | .shr, .int k a, .int _ b => some (0 ≤ b ∧ K (.int k (a.fdiv (2 ^ (min b.toNat k.bits)))))
  | _, _, _ => none
theorem aD0 {op : BinOp} {t : TypeId} {X Y : Operand} {x y : Value} {K : Value → Prop} {Q : Prop} (he : aIK op x y K = some Q) (h : Q) :
    ∃ v, K v ∧ ∀ w, (do eqGuard op t X Y x y; binOp op t x y : Sem Value).run P w = .ok v w := by
  unfold aIK at he
  split at he <;> simp only [Option.some.injEq, reduceCtorEq] at he <;> subst he
  · obtain ⟨rfl, hb, hK⟩ := h
    exact ⟨_, hK, fun w => by simp [eqGuard, binOp, Op.intDiv, hb, Sem.run]⟩
  · obtain ⟨rfl, hb, hK⟩ := h
    exact ⟨_, hK, fun w => by simp [eqGuard, binOp, Op.intDiv, hb, Sem.run]⟩
  · obtain ⟨hb, hK⟩ := h
    exact ⟨_, hK, fun w => by simp [eqGuard, binOp, Op.shift, Int.not_lt.2 hb, Sem.run]⟩
  · obtain ⟨hb, hK⟩ := h
    exact ⟨_, hK, fun w => by simp [eqGuard, binOp, Op.shift, Int.not_lt.2 hb, Sem.run]⟩
structure Prim where
  call : FuncId → Array Value → (Value → Mem → Prop) → Mem → Prop
  ld : TypeId → Addr → Mem → Option Value
  bq : BinOp → TypeId → Operand → Operand → Value → Value → Option Value
  bqm : BinOp → TypeId → Operand → Operand → Value → Value → Mem → Option Value
  oF : TypeId → List (Nat × Value) → Option Value
  idx : TypeId → Value → Value → Option Value
  lk : TypeId → Value → Value → Bool → Mem → Option Value
  aGK : Array TypeId → TypeId → List Value → Mem → Option Value
  rdv : TypeId → Value → Mem → Option Value
  st : TypeId → Addr → Value → (Mem → Prop) → Mem → Prop
  mup : TypeId → Value → Value → Value → (Mem → Prop) → Mem → Prop
  nw : List Value → TypeId → (Nat → Mem → Prop) → Mem → Prop
  bsl : TypeId → Nat → List (Nat × Value) → (Value → Mem → Prop) → Mem → Prop
  mks : TypeId → Value → Value → (Value → Mem → Prop) → Mem → Prop
  mkm : TypeId → Option Value → (Value → Mem → Prop) → Mem → Prop
  men : TypeId → Value → Value → (Value → Int → Mem → Prop) → Mem → Prop
  mes : TypeId → Value → Value → Value → (Mem → Prop) → Mem → Prop
  app : Array TypeId → TypeId → List Value → (Value → Mem → Prop) → Mem → Prop
  cpy : Array TypeId → TypeId → List Value → (Value → Mem → Prop) → Mem → Prop
  del : Array TypeId → TypeId → List Value → (Value → Mem → Prop) → Mem → Prop
  clr : Array TypeId → TypeId → List Value → (Value → Mem → Prop) → Mem → Prop
def nw (w0 : World) (cs : List Value) (e : TypeId) (K : Nat → Mem → Prop) (M : Mem) : Prop := ∀ b, M b = none → w0.heap.size ≤ b → K b (M.set b (.row cs e))
def aJ (P : Program) (w0 : World) : Prim where
  call := C P w0
  ld t a M := fD P w0 M (Instr.loadAt t (.pointer (some a)))
  bq op t X Y x y := dT P (do eqGuard op t X Y x y; binOp op t x y)
  bqm op t X Y x y M := fD P w0 M (do eqGuard op t X Y x y; binOp op t x y)
  oF t parts := dT P (Instr.build t parts.toArray)
  idx t x i := dT P (Instr.index t x i)
  lk t x i ok M := fD P w0 M (Instr.lookup t x i ok)
  aGK tys ty args M := fD P w0 M (Builtin.len_ tys ty args.toArray)
  rdv t v M := fD P w0 M (do loadVar t (← asAddr v))
  st t a v K M := act P w0 (Instr.storeAt t (.pointer (some a)) v) (fun _ M' => K M') M
  mup t m k v K M := act P w0 (Instr.mapUpdate t m k v) (fun _ M' => K M') M
  nw := nw w0
  bsl t n parts K M := act P w0 (Instr.buildSlice t n parts.toArray) K M
  mks t l c K M := act P w0 (Instr.makeSlice t l c) K M
  mkm t r K M := act P w0 (Instr.makeMap t r) K M
  men t m k K M := act P w0 (Instr.mapEntry t m k) (fun r M' => ∃ v n, r = .tuple #[v, .int .i64 n] ∧ K v n M') M
  mes t m k v K M := act P w0 (Instr.entryStore t m k v) (fun _ M' => K M') M
  app tys ty args K M := act P w0 (Builtin.append_ tys ty args.toArray) K M
  cpy tys ty args K M := act P w0 (Builtin.copy_ tys ty args.toArray) K M
  del tys ty args K M := act P w0 (Builtin.delete_ tys ty args.toArray) K M
  clr tys ty args K M := act P w0 (Builtin.clear_ tys ty args.toArray) K M
def aKS (P : Program) (t : TypeId) : Bool := match P.underlying t with
  | some (.pointer _) => true
  | _ => false
def aKI (P : Program) (t : Option TypeId) : Bool := match t with
  | some t => match P.underlying t with
    | some (.map _ _) => true
    | _ => false
  | none => false
def z2 : Operand → Bool
  | .const _ => true
  | _ => false
def aKP (P : Program) (op : BinOp) (t : TypeId) (x y : Operand) : Bool := match op with
  | .eql => aKS P t && !z2 x && !z2 y
  | .neq => aKS P t && !z2 x && !z2 y
  | _ => false
def reads (P : Program) : Op → Bool
  | .load .. => true
  | .lookup .. => true
  | .call ⟨.builtin .len, _, tys⟩ => aKI P tys[0]?
  | .binOp op t x y _ => aKP P op t x y
  | _ => false
def aJc (op : BinOp) (x y : Value) : Option Value := match op, x, y with
  | .add, .int k a, .int k' b => if k = k' then some (.int k (k.wrap (a + b))) else none
  | .sub, .int k a, .int k' b => if k = k' then some (.int k (k.wrap (a - b))) else none
  | .mul, .int k a, .int k' b => if k = k' then some (.int k (k.wrap (a * b))) else none
  | .eql, .int k a, .int k' b => if k = k' then some (.bool (a == b)) else none
  | .neq, .int k a, .int k' b => if k = k' then some (.bool (a != b)) else none
  | .lss, .int k a, .int k' b => if k = k' then some (.bool (decide (a < b))) else none
  | .leq, .int k a, .int k' b => if k = k' then some (.bool (decide (a ≤ b))) else none
  | .gtr, .int k a, .int k' b => if k = k' then some (.bool (decide (a > b))) else none
  | .geq, .int k a, .int k' b => if k = k' then some (.bool (decide (a ≥ b))) else none
  | _, _, _ => none
def look (P : Program) (pr : Prim) (M : Mem) (ρ : Operand → Value) (o : Oper) : Option Value := match o.op with
  | .load t a => match ρ a with
    | .pointer (some ad) => pr.ld t ad M
    | _ => none
  | .lookup t x i ok => pr.lk t (ρ x) (ρ i) ok M
  | .call ⟨.builtin .len, args, tys⟩ => pr.aGK tys o.type (args.toList.map ρ) M
  | .binOp op t x y _ => pr.bqm op t x y (ρ x) (ρ y) M
  | _ => none
def aHG (P : Program) (pr : Prim) (M : Mem) (ρ : Operand → Value) (o : Oper) (K : Value → Prop) : Prop := match reads P o.op with
  | true => ob (look P pr M ρ o) K
  | false => match o.op with
    | .nilCheck x => match ρ x with
      | .pointer p => match p with
        | some a => K (.pointer (some a))
        | none => False
      | .func (.func f) a b => K (.func (.func f) a b)
      | _ => False
    | .indexAddr t x i => ixA P t (ρ x) (ρ i) K
    | .slice t x lo hi none => aLU P t (ρ x) (lo.map ρ) (hi.map ρ) K
    | .slice t x lo (some hi) (some mx) => aHC P t (ρ x) (lo.map ρ) (ρ hi) (ρ mx) K
    | .pick c a b => shB (ρ c) fun t => bs t (K (ρ a)) (K (ρ b))
    | .binOp op t x y _ => match aIK op (ρ x) (ρ y) K with
      | some Q => Q
      | none => match aJc op (ρ x) (ρ y) with
        | some v => K v
        | none => ob (pr.bq op t x y (ρ x) (ρ y)) K
    | .build t parts => ob (pr.oF t (parts.toList.map fun p => (p.1, ρ p.2))) K
    | .index t x i => ob (pr.idx t (ρ x) (ρ i)) K
    | _ => match aEt ρ o with
      | some s => match dT P s with
        | some v => K v
        | none => False
      | none => False
theorem aBO {M : Mem} {ρ : Operand → Value} {o : Oper} {v : Value} (hr : reads P o.op = true) (h : look P (aJ P w0) M ρ o = some v) (w : World) (hw : Rel w0 M w) : (execOp ρ o).run P w = .ok (.value v) w := by
  obtain ⟨dst, op, type, pos, after, guard⟩ := o
  unfold look at h
  split at h
  · rename_i t a heq
    simp only at heq; subst heq
    split at h
    · rename_i ad had
      refine gZ (s := Instr.loadAt t (ρ a)) ?_
      rw [had]; exact rX hw h
    · cases h
  · rename_i t x i ok heq
    simp only at heq; subst heq
    exact gZ (rX hw h)
  · rename_i args tys heq
    simp only at heq; subst heq
    rw [aAp (s := Builtin.len_ tys type (args.toList.map ρ).toArray) rfl]
    exact gZ (rX hw h)
  · rename_i bop t x y yt heq
    simp only at heq; subst heq
    exact gZ (rX hw h)
  · cases h
theorem aD5 {op : BinOp} {t : TypeId} {X Y : Operand} {x y v : Value} (h : aJc op x y = some v) (w : World) : (do eqGuard op t X Y x y; binOp op t x y : Sem Value).run P w = .ok v w := by
  unfold aJc at h
  split at h <;> (try cases h)
  all_goals
    split at h
    · rename_i e; subst e; cases h; first | rfl | (simp [eqGuard, binOp, Op.intArith, Op.intCmp])
    · cases h
theorem aAz {M : Mem} {ρ : Operand → Value} {o : Oper} {K : Value → Prop} (h : aHG P (aJ P w0) M ρ o K) :
    ∃ v, K v ∧ (reads P o.op = false → ∀ w, (execOp ρ o).run P w = .ok (.value v) w) ∧ (∀ w, Rel w0 M w → (execOp ρ o).run P w = .ok (.value v) w) := by
  unfold aHG at h
  split at h
  · rename_i hr
    obtain ⟨v, hv, hK⟩ := aBc h
    exact ⟨v, hK, fun e => (by rw [hr] at e; cases e), fun w hw => aBO hr hv w hw⟩
  · obtain ⟨dst, op, type, pos, after, guard⟩ := o
    have all : ∀ v, K v → (∀ w, (execOp ρ ⟨dst, op, type, pos, after, guard⟩).run P w = .ok (.value v) w) → ∃ v, K v ∧ (reads P op = false → ∀ w, (execOp ρ ⟨dst, op, type, pos, after, guard⟩).run P w = .ok (.value v) w) ∧ (∀ w, Rel w0 M w → (execOp ρ ⟨dst, op, type, pos, after, guard⟩).run P w = .ok (.value v) w) :=
      fun v hK hv => ⟨v, hK, fun _ w => hv w, fun w _ => hv w⟩
    split at h
    · rename_i x heq
      simp only at heq; subst heq
      split at h
      · rename_i p hp
        split at h
        · exact all _ h fun w => by simp only [execOp, hp]; rfl
        · exact h.elim
      · rename_i f a b hp
        exact all _ h fun w => by simp only [execOp, hp]; rfl
      · exact h.elim
    · rename_i t x i heq
      simp only at heq; subst heq
      obtain ⟨v, hK, hv⟩ := aG9 h
      exact all v hK fun w => gZ (hv w)
    · rename_i t x lo hi heq
      simp only at heq; subst heq
      obtain ⟨v, hK, hv⟩ := aFd h
      exact all v hK fun w => gZ (hv w)
    · rename_i t x lo hi mx heq
      simp only at heq; subst heq
      obtain ⟨v, hK, hv⟩ := aDC h
      exact all v hK fun w => gZ (hv w)
    · rename_i c a b heq
      simp only at heq; subst heq
      obtain ⟨t, ht, h⟩ := aAI h
      have hx : ∀ w, (execOp ρ ⟨dst, .pick c a b, type, pos, after, guard⟩).run P w = .ok (.value (if t then ρ a else ρ b)) w := fun w => by
        simp only [execOp, ht, asBool]; rfl
      rcases aEW h with ⟨rfl, hK⟩ | ⟨rfl, hK⟩
      · exact all _ hK hx
      · exact all _ hK hx
    · rename_i bop t x y yt heq
      simp only at heq; subst heq
      split at h
      · rename_i Q hQ
        obtain ⟨v, hK, hv⟩ := aD0 (P := P) (t := t) (X := x) (Y := y) hQ h
        exact all v hK fun w => gZ (hv w)
      · split at h
        · rename_i v hv
          exact all v h fun w => gZ (aD5 hv w)
        · obtain ⟨v, hv, hK⟩ := aBc h
          exact all v hK fun w => gZ (uT hv w)
    · rename_i t parts heq
      simp only at heq; subst heq
      obtain ⟨v, hv, hK⟩ := aBc h
      refine all v hK fun w => ?_
      rw [aAp (s := Instr.build t (parts.toList.map fun p => (p.1, ρ p.2)).toArray) rfl]
      exact gZ (uT hv w)
    · rename_i t x i heq
      simp only at heq; subst heq
      obtain ⟨v, hv, hK⟩ := aBc h
      exact all v hK fun w => gZ (uT hv w)
    · split at h
      · rename_i s hs
        split at h
        · rename_i v hv
          refine all v h fun w => ?_
          rw [aAp hs]; exact gZ (uT hv w)
        · exact h.elim
      · exact h.elim
end
end HL
namespace HL
abbrev VP := Value → Mem → Prop
end HL
end Go.Proofs.YtodobkbnmjgkdaaGreat
