import Derived.Test.YtodobkbnmjgkdaaGreatPe2
set_option linter.unusedVariables false
set_option linter.unusedSimpArgs false
namespace Go.Proofs.YtodobkbnmjgkdaaGreat.HL
open Go.RowKit (Below)
section
variable (P : Program) (pr : Prim) (ops : List Oper)
def msk (i : Nat) : Nat := (ahead ops []).getD i 0
def x7 : Nat := aBr (fun o => !quiet o.op) ops 0
def rH (done i : Nat) : Bool := sub (msk ops i &&& x7 ops) done
def aL2 (done : Nat) : List Nat := idx ops fun i o => quiet o.op && rH ops done i
def aAs (done old : Nat) : List Nat := idx ops fun i o => quiet o.op && rH ops done i && !rH ops old i
def aIf (done i : Nat) : Bool := (List.range ops.length).any fun l => done.testBit l && (msk ops l).testBit i
def aDP (done old : Nat) : List Nat := idx ops fun i o => quiet o.op && reads P o.op && rH ops old i && !aIf ops done i
def aDu (done : Nat) : List Nat := idx ops fun l o => !quiet o.op && !done.testBit l && rH ops done l
def aFR : List Nat → Env → Mem → (Env → Prop) → Prop
  | [], env, _, K => K env
  | i :: r, env, M, K => match ops[i]? with
    | some o => aEN P pr ops i o env M fun env' _ => aFR r env' M K
    | none => False
def seen (o : Oper) (env : Env) (M : Mem) : Prop := match o.dst with
  | some d => match env.get d with
    | some v => look P pr M (m9 env) o = some v
    | none => False
  | none => False
def aFr : List Nat → Env → Mem → Prop → Prop
  | [], _, _, K => K
  | i :: r, env, M, K => match ops[i]? with
    | some o => match o.guard with
      | none => seen P pr o env M ∧ aFr r env M K
      | some (j, want) => match oM ops j with
        | some t => match env.get t with
          | some (.bool b) => match b == want with
            | true => seen P pr o env M ∧ aFr r env M K
            | false => aFr r env M K
          | some (.tuple _) => aFr r env M K
          | _ => False
        | none => False
    | none => False
def aKf (f : Nat → Prop) : List Nat → Prop
  | [] => False
  | [x] => f x
  | x :: y :: r => f x ∧ aKf f (y :: r)
def aBy : Nat → List Nat → List Nat → Nat → Env → Mem → (Env → Mem → Prop) → Prop
  | 0, _, _, _, _, _, _ => False
  | fuel + 1, news, olds, done, env, M, K =>
    aFR P pr ops news env M fun env' => aFr P pr ops olds env' M (match sub (x7 ops) done with
      | true => K env' M
      | false => aKf (fun l => match ops[l]? with
        | some o => aEN P pr ops l o env' M fun env2 M2 =>
            aBy fuel (aAs ops (done ||| 2 ^ l) done) (aDP P ops (done ||| 2 ^ l) done) (done ||| 2 ^ l) env2 M2 K
        | none => False) (aDu ops done))
def draw (env : Env) (M : Mem) (K : Env → Mem → Prop) : Prop := aBy P pr ops (ops.length + 1) (aL2 ops 0) [] 0 env M K
def aHH (o : Oper) : List Nat := o.op.operands.toList.filterMap fun x => match x with
  | .tmp t => some t
  | _ => none
def zX (o : Oper) : List Nat := (match o.guard with
  | some (j, _) => (oM ops j).toList
  | none => []) ++ aHH o
def isDst (o : Oper) (t : Nat) : Bool := match o.dst with
  | some d => Nat.beq d t
  | none => false
def aCO (i : Nat) (o : Oper) : Bool :=
  ((qB o).all fun k => Nat.blt k i) &&
  ((List.range ops.length).all fun k => match ops[k]? with
    | some ok => (match (msk ops i).testBit k with
        | true => Nat.blt k i && sub (msk ops k) (msk ops i)
        | false => !(zX ops o).any (isDst ok) || (!quiet ok.op && (msk ops k).testBit i)) &&
      (Nat.beq k i || !(match o.dst with
        | some d => isDst ok d
        | none => false))
    | none => false)
def chk : Bool := (List.range ops.length).all fun i => match ops[i]? with
  | some o => aCO ops i o
  | none => false
variable {P : Program} {w0 : World} {ops : List Oper}
theorem aCi {o : Oper} {t : Nat} : isDst o t = true ↔ o.dst = some t := by
  unfold isDst
  cases o.dst with
  | none => simp
  | some d => simp
structure Chk (ops : List Oper) : Prop where
  dep : ∀ (i : Nat) (o : Oper), ops[i]? = some o → ∀ k ∈ qB o, k < i
  lt : ∀ (i : Nat) (o : Oper) (k : Nat) (ok : Oper), ops[i]? = some o → ops[k]? = some ok → (msk ops i).testBit k = true → k < i
  tr : ∀ (i : Nat) (o : Oper) (k : Nat) (ok : Oper), ops[i]? = some o → ops[k]? = some ok → (msk ops i).testBit k = true → sub (msk ops k) (msk ops i) = true
  look : ∀ (i : Nat) (o : Oper) (k : Nat) (ok : Oper) (t : Nat), ops[i]? = some o → ops[k]? = some ok → t ∈ zX ops o → ok.dst = some t → (msk ops i).testBit k = true ∨ (quiet ok.op = false ∧ (msk ops k).testBit i = true)
  dst : ∀ (i : Nat) (o : Oper) (k : Nat) (ok : Oper) (d : Nat), ops[i]? = some o → ops[k]? = some ok → o.dst = some d → ok.dst = some d → k = i
theorem aJn (h : chk ops = true) : Chk ops := by
  have one : ∀ i o, ops[i]? = some o → aCO ops i o = true := fun i o ho => by
    have := List.all_eq_true.1 h i (List.mem_range.2 (List.getElem?_eq_some_iff.1 ho).1)
    rw [ho] at this; exact this
  have two : ∀ i o, ops[i]? = some o → ∀ k ok, ops[k]? = some ok → (match (msk ops i).testBit k with
        | true => Nat.blt k i && sub (msk ops k) (msk ops i)
        | false => !(zX ops o).any (isDst ok) || (!quiet ok.op && (msk ops k).testBit i)) = true ∧ (Nat.beq k i || !(match o.dst with
        | some d => isDst ok d
        | none => false)) = true := fun i o ho k ok hk => by
    have := one i o ho
    simp only [aCO, Bool.and_eq_true] at this
    have h2 := List.all_eq_true.1 this.2 k (List.mem_range.2 (List.getElem?_eq_some_iff.1 hk).1)
    rw [hk] at h2
    simpa only [Bool.and_eq_true] using h2
  refine ⟨?_, ?_, ?_, ?_, ?_⟩
  · intro i o ho k hk
    have := one i o ho
    simp only [aCO, Bool.and_eq_true] at this
    exact Nat.le_of_ble_eq_true (List.all_eq_true.1 this.1 k hk)
  · intro i o k ok ho hk hb
    have := (two i o ho k ok hk).1
    rw [hb] at this
    simp only [Bool.and_eq_true] at this
    exact Nat.le_of_ble_eq_true this.1
  · intro i o k ok ho hk hb
    have := (two i o ho k ok hk).1
    rw [hb] at this
    simp only [Bool.and_eq_true] at this
    exact this.2
  · intro i o k ok t ho hk ht hd
    have := (two i o ho k ok hk).1
    cases hb : (msk ops i).testBit k with
    | true => exact .inl rfl
    | false =>
      rw [hb] at this
      simp only [Bool.or_eq_true, Bool.not_eq_true', List.any_eq_false, Bool.and_eq_true] at this
      rcases this with this | this
      · exact absurd (aCi.2 hd) (this t ht)
      · exact .inr this
  · intro i o k ok d ho hk hd hd'
    have := (two i o ho k ok hk).2
    simp only [hd, Bool.or_eq_true, Bool.not_eq_true'] at this
    rcases this with h' | h'
    · exact Nat.eq_of_beq_eq_true h'
    · rw [aCi.2 hd'] at h'; cases h'
theorem Chk.aCa (hc : Chk ops) {i : Nat} {o : Oper} {k : Nat} {ok : Oper} {t : Nat} (ho : ops[i]? = some o) (hk : ops[k]? = some ok) (ht : t ∈ zX ops o) (hd : ok.dst = some t) (hq : quiet ok.op = true) : (msk ops i).testBit k = true := by
  rcases hc.look i o k ok t ho hk ht hd with h | ⟨h, _⟩
  · exact h
  · rw [hq] at h; cases h
theorem aCB {o : Oper} {t : Nat} (h : Operand.tmp t ∈ o.op.operands) : t ∈ aHH o := by
  unfold aHH
  exact List.mem_filterMap.2 ⟨.tmp t, by simpa using h, rfl⟩
def z8 (ops : List Oper) (o : Oper) (env env' : Env) : Prop := ∀ t ∈ zX ops o, env'.get t = env.get t
theorem z8.ev {o : Oper} {env env' : Env} (h : z8 ops o env env') {x : Operand} (hx : x ∈ o.op.operands) : ev env' x = ev env x := by
  cases x with
  | tmp t => exact h t (List.mem_append_right _ (aCB hx))
  | _ => rfl
theorem z8.uI {o : Oper} {env env' : Env} (h : z8 ops o env env') : uI env' o = uI env o := by
  unfold HL.uI
  rw [Bool.eq_iff_iff, List.all_eq_true, List.all_eq_true]
  constructor
  · intro hh x hx; rw [← h.ev (by simpa using hx)]; exact hh x hx
  · intro hh x hx; rw [h.ev (by simpa using hx)]; exact hh x hx
theorem z8.exec {o : Oper} {env env' : Env} (h : z8 ops o env env') (hs : ∀ cs b, o.op ≠ .select cs b) : execOp (m9 env') o = execOp (m9 env) o :=
  execOp_congr o hs fun x hx => by unfold m9; rw [h.ev hx]
structure Val (P : Program) (w0 : World) (o : Oper) (env : Env) (v : Value) : Prop where
  known : uI env o = true
  dst : ∀ d, o.dst = some d → env.get d = some v
  free : reads P o.op = false → ∀ w, (execOp (m9 env) o).run P w = .ok (.value v) w
def aLm (P : Program) (w0 : World) (o : Oper) (env : Env) (M : Mem) (v : Value) : Prop :=
  Val P w0 o env v ∧ ∀ w, Rel w0 M w → (execOp (m9 env) o).run P w = .ok (.value v) w
def lK (ops : List Oper) (o : Oper) (env : Env) : Prop := match o.guard with
  | none => True
  | some (j, want) => ∃ t, oM ops j = some t ∧ env.get t = some (.bool want)
def tI (ops : List Oper) (o : Oper) (env : Env) : Prop := match o.guard with
  | none => False
  | some (j, want) => ∃ t, oM ops j = some t ∧ (env.get t = some (.bool !want) ∨ ∃ c, env.get t = some (.tuple c))
theorem z8.ok {o : Oper} {env env' : Env} (h : z8 ops o env env') (g : lK ops o env) : lK ops o env' := by
  unfold lK at *
  split
  · trivial
  · rename_i j want hg
    rw [hg] at g
    obtain ⟨t, hs, hb⟩ := g
    exact ⟨t, hs, by rw [h t (List.mem_append_left _ (by simp [hg, hs]))]; exact hb⟩
theorem z8.no {o : Oper} {env env' : Env} (h : z8 ops o env env') (g : tI ops o env) : tI ops o env' := by
  unfold tI at *
  split
  · rename_i hg; rw [hg] at g; exact g
  · rename_i j want hg
    rw [hg] at g
    obtain ⟨t, hs, hb⟩ := g
    exact ⟨t, hs, by rw [h t (List.mem_append_left _ (by simp [hg, hs]))]; exact hb⟩
def aIr (ops : List Oper) (o : Oper) (env : Env) (T : Value → Prop) : Prop :=
  (lK ops o env ∧ ∃ v, T v) ∨ (tI ops o env ∧ ∀ d, o.dst = some d → env.get d = some undef)
theorem aEn {i : Nat} {o : Oper} {env : Env} {M : Mem} {K : Env → Mem → Prop} (h : aEN P (aJ P w0) ops i o env M K) :
    (lK ops o env ∧ aEi P (aJ P w0) ops i o env M K) ∨ (tI ops o env ∧ K (env.put o.dst undef) M) := by
  unfold aEN at h
  unfold lK tI
  split at h
  · rename_i hg; exact .inl ⟨by rw [hg]; trivial, h⟩
  · rename_i j want hg
    split at h
    · exact h.elim
    · rename_i t hs
      split at h
      · rename_i b hb
        split at h
        · rename_i hbw
          have := eq_of_beq hbw; subst this
          exact .inl ⟨by rw [hg]; exact ⟨t, hs, hb⟩, h⟩
        · rename_i hbw
          have : b = !want := by cases b <;> cases want <;> simp_all
          subst this
          exact .inr ⟨by rw [hg]; exact ⟨t, hs, .inl hb⟩, h⟩
      · rename_i c hb
        exact .inr ⟨by rw [hg]; exact ⟨t, hs, .inr ⟨c, hb⟩⟩, h⟩
      · exact h.elim
theorem aHX {i : Nat} {o : Oper} {env : Env} {M : Mem} {K : Env → Mem → Prop} (hq : quiet o.op = true) (h : aEi P (aJ P w0) ops i o env M K) :
    uI env o = true ∧ ∃ v, K (env.put o.dst v) M ∧ (reads P o.op = false → ∀ w, (execOp (m9 env) o).run P w = .ok (.value v) w) ∧ (∀ w, Rel w0 M w → (execOp (m9 env) o).run P w = .ok (.value v) w) := by
  unfold aEi at h
  split at h
  · exact h.elim
  · rename_i hk
    refine ⟨hk, ?_⟩
    split at h
    case h_16 =>
      obtain ⟨v, hK, h1, h2⟩ := aAz h
      exact ⟨v, xO (zW hK), h1, h2⟩
    all_goals
      exfalso
      rename_i ho
      rw [ho] at hq
      simp [quiet] at hq
theorem zL {env : Env} {d : Option Nat} {v : Value} {s : Nat} (h : d ≠ some s) : (env.put d v).get s = env.get s := by
  cases d with
  | none => rfl
  | some t => simp only [Env.put, Env.wY]; rw [if_neg (fun e => h (by rw [e]))]
theorem zA {env : Env} {s : Nat} {v : Value} : (env.put (some s) v).get s = some v := by
  simp [Env.put, Env.wY]
theorem aDI (hc : Chk ops) (hn : aAu ops = true) : ∀ (l : List Nat) (env : Env) (M : Mem) (K : Env → Prop),
    l.Pairwise (· < ·) → (∀ i ∈ l, ∃ o, ops[i]? = some o ∧ quiet o.op = true) → aFR P (aJ P w0) ops l env M K →
    ∃ env', K env' ∧ (∀ s, (∀ i ∈ l, ∀ o, ops[i]? = some o → o.dst ≠ some s) → env'.get s = env.get s) ∧
      ∀ i ∈ l, ∀ o, ops[i]? = some o → aIr ops o env' (aLm P w0 o env' M) := by
  intro l
  induction l with
  | nil => intro env M K _ _ h; exact ⟨env, h, fun _ _ => rfl, by simp⟩
  | cons i r ih =>
    intro env M K hp hq h
    obtain ⟨hlt, hpr⟩ := List.pairwise_cons.1 hp
    obtain ⟨o, ho, hqo⟩ := hq i List.mem_cons_self
    simp only [aFR, ho] at h
    have frame : ∀ (v : Value) (env' : Env), (∀ s, (∀ k ∈ r, ∀ ok, ops[k]? = some ok → ok.dst ≠ some s) → env'.get s = (env.put o.dst v).get s) →
        (∀ s, (∀ k ∈ i :: r, ∀ ok, ops[k]? = some ok → ok.dst ≠ some s) → env'.get s = env.get s) ∧ z8 ops o env env' ∧ (∀ d, o.dst = some d → env'.get d = some v) := by
      intro v env' hf
      refine ⟨?_, ?_, ?_⟩
      · intro s hs
        rw [hf s (fun k hk ok hok => hs k (List.mem_cons_of_mem _ hk) ok hok)]
        exact zL (hs i List.mem_cons_self o ho)
      · intro t ht
        rw [hf t (fun k hk ok hok e => by
          obtain ⟨ok', hok', hqk⟩ := hq k (List.mem_cons_of_mem _ hk)
          rw [hok] at hok'; cases hok'
          have h1 := hc.lt i o k ok ho hok (hc.aCa ho hok ht e hqk)
          have h2 := hlt k hk
          omega)]
        exact zL (fun e => by
          have h1 := hc.lt i o i o ho ho (hc.aCa ho ho ht e hqo)
          omega)
      · intro d hd
        rw [hf d (fun k hk ok hok e => by
          have h1 := hc.dst i o k ok d ho hok hd e
          have h2 := hlt k hk
          omega), hd]
        exact zA
    rcases aEn h with ⟨hg, h⟩ | ⟨hg, hK⟩
    · obtain ⟨hk, v, hK, h1, h2⟩ := aHX hqo h
      obtain ⟨env', hK', hf, hP⟩ := ih _ M K hpr (fun k hk => hq k (List.mem_cons_of_mem _ hk)) hK
      obtain ⟨f1, f2, f3⟩ := frame v env' hf
      refine ⟨env', hK', f1, ?_⟩
      intro k hk' ok hok
      rcases List.mem_cons.1 hk' with rfl | hk'
      · rw [ho] at hok; cases hok
        have he := f2.exec (rW hn (List.mem_of_getElem? ho))
        exact .inl ⟨f2.ok hg, v, ⟨by rw [f2.uI]; exact hk, f3, fun e w => by rw [he]; exact h1 e w⟩, fun w hw => by rw [he]; exact h2 w hw⟩
      · exact hP k hk' ok hok
    · obtain ⟨env', hK', hf, hP⟩ := ih _ M K hpr (fun k hk => hq k (List.mem_cons_of_mem _ hk)) hK
      obtain ⟨f1, f2, f3⟩ := frame undef env' hf
      refine ⟨env', hK', f1, ?_⟩
      intro k hk' ok hok
      rcases List.mem_cons.1 hk' with rfl | hk'
      · rw [ho] at hok; cases hok
        exact .inr ⟨f2.no hg, f3⟩
      · exact hP k hk' ok hok
theorem aID : ∀ (l : List Nat) (env : Env) (M : Mem) (K : Prop), aFr P (aJ P w0) ops l env M K →
    K ∧ ∀ i ∈ l, ∀ o, ops[i]? = some o → lK ops o env → seen P (aJ P w0) o env M := by
  intro l
  induction l with
  | nil => intro env M K h; exact ⟨h, by simp⟩
  | cons i r ih =>
    intro env M K h
    simp only [aFr] at h
    split at h
    · rename_i o ho
      have done : ∀ (S : Prop), (lK ops o env → S) → S ∨ True := fun _ _ => .inr trivial
      have fold : K ∧ (∀ i ∈ r, ∀ o, ops[i]? = some o → lK ops o env → seen P (aJ P w0) o env M) → (lK ops o env → seen P (aJ P w0) o env M) →
          K ∧ ∀ k ∈ i :: r, ∀ o, ops[k]? = some o → lK ops o env → seen P (aJ P w0) o env M := fun ⟨h1, h2⟩ h3 =>
        ⟨h1, fun k hk ok hok hg => by
          rcases List.mem_cons.1 hk with rfl | hk
          · rw [ho] at hok; cases hok; exact h3 hg
          · exact h2 k hk ok hok hg⟩
      split at h
      · exact fold (ih _ _ _ h.2) fun _ => h.1
      · rename_i j want hg
        split at h
        · rename_i t hs
          split at h
          · rename_i b hb
            split at h
            · exact fold (ih _ _ _ h.2) fun _ => h.1
            · rename_i hbw
              refine fold (ih _ _ _ h) fun g => ?_
              unfold lK at g
              rw [hg] at g
              obtain ⟨t', hs', hb'⟩ := g
              rw [hs] at hs'; cases hs'
              rw [hb] at hb'; cases hb'
              simp at hbw
          · rename_i c hb
            refine fold (ih _ _ _ h) fun g => ?_
            unfold lK at g
            rw [hg] at g
            obtain ⟨t', hs', hb'⟩ := g
            rw [hs] at hs'; cases hs'
            rw [hb] at hb'; cases hb'
          · exact h.elim
        · exact h.elim
    · exact h.elim
theorem aEj {f : Nat → Prop} : ∀ {l : List Nat} {x : Nat}, aKf f l → x ∈ l → f x
  | [x], y, h, hy => by rw [List.mem_singleton.1 hy]; exact h
  | x :: y :: r, z, h, hz => by
    rcases List.mem_cons.1 hz with rfl | hz
    · exact h.1
    · exact aEj h.2 hz
theorem zF (p : Nat → Oper → Bool) : (idx ops p).Pairwise (· < ·) := by
  unfold idx
  exact List.Pairwise.filter _ List.pairwise_lt_range
structure Inv (P : Program) (w0 : World) (N : Nat) (ops : Array Oper) (K : Env → Mem → Prop) (listed : Array Bool) (done : Nat) (env : Env) (M : Mem) (a : Act) (w : World) : Prop where
  size : listed.size = ops.size
  frame : a.tmps.size = N ∧ a.defers = []
  aCm : ∀ s v, env.get s = some v → (∀ i o, ops[i]? = some o → quiet o.op = true → o.dst = some s → listed.getD i false = true) → a.tmps[s]? = some v
  rel : Rel w0 M w
  tL : ∀ l, done.testBit l = true ↔ ∃ o, ops[l]? = some o ∧ quiet o.op = false ∧ listed.getD l false = true
  closed : ∀ i o, ops[i]? = some o → listed.getD i false = true → ∀ k ∈ qB o, listed.getD k false = true
theorem tM.lt {ops : Array Oper} {i k : Nat} (h : tM ops k i) : i < ops.size := by
  induction h with
  | base ho _ => exact (Array.getElem?_eq_some_iff.1 ho).1
  | step _ _ _ ih => exact ih
theorem tU {listed : Array Bool} {ops : Array Oper} (hcl : ∀ i o, ops[i]? = some o → listed.getD i false = true → ∀ k ∈ qB o, listed.getD k false = true) {i k : Nat} (h : tM ops k i) :
    ∀ o, ops[i]? = some o → (∀ j ∈ qB o, listed.getD j false = true) → listed.getD k false = true := by
  induction h with
  | base ho hk => intro o ho' hd; rw [ho] at ho'; cases ho'; exact hd _ hk
  | @step i j k h h' ih1 ih2 =>
    intro o ho hd
    have hj := ih2 o ho hd
    have hlt := h.lt
    have hoj : ops[j]? = some ops[j] := by simp [hlt]
    exact ih1 _ hoj (hcl j _ hoj hj)
theorem vO {listed : Array Bool} {i : Nat} (h : listed.getD i true = false) : i < listed.size ∧ listed.getD i false = false := by
  rcases Nat.lt_or_ge i listed.size with h' | h'
  · refine ⟨h', ?_⟩
    simp [h'] at h ⊢; exact h
  · simp [Array.getElem?_eq_none h'] at h
theorem mM {listed : Array Bool} {i k : Nat} (hi : i < listed.size) : (listed.setIfInBounds i true).getD k false = true ↔ k = i ∨ listed.getD k false = true := by
  by_cases h : i = k
  · subst h
    simp [hi]
  · simp [Array.getElem?_setIfInBounds_ne h]
    exact fun e => absurd e.symm h
theorem y6 {N : Nat} {ops : Array Oper} {K : Env → Mem → Prop} {listed : Array Bool} {done : Nat} {env : Env} {M : Mem} {a : Act} {w : World}
    (h : Inv P w0 N ops K listed done env M a w) (hall : ∀ i o, ops[i]? = some o → listed.getD i false = true) : pD N env a :=
  ⟨h.frame.1, h.frame.2, fun s v hs => h.aCm s v hs fun i o ho _ _ => hall i o ho⟩
def Rest (P : Program) (w0 : World) (ops : List Oper) (f done : Nat) (env : Env) (M : Mem) (K : Env → Mem → Prop) : Prop := match sub (x7 ops) done with
  | true => K env M
  | false => aKf (fun l => match ops[l]? with
    | some o => aEN P (aJ P w0) ops l o env M fun env2 M2 =>
        aBy P (aJ P w0) ops f (aAs ops (done ||| 2 ^ l) done) (aDP P ops (done ||| 2 ^ l) done) (done ||| 2 ^ l) env2 M2 K
    | none => False) (aDu ops done)
theorem toL {ops : Array Oper} {i : Nat} {o : Oper} (h : ops[i]? = some o) : ops.toList[i]? = some o := by simpa using h
theorem ofL {ops : Array Oper} {i : Nat} {o : Oper} (h : ops.toList[i]? = some o) : ops[i]? = some o := by simpa using h
theorem enter {N f : Nat} {ops : Array Oper} {K : Env → Mem → Prop} {listed : Array Bool} {done : Nat} {env : Env} {M : Mem} {a : Act} {w : World} {news olds : List Nat}
    (hc : Chk ops.toList) (hn : aAu ops.toList = true) (hi : Inv P w0 N ops K listed done env M a w)
    (hp : news.Pairwise (· < ·)) (hq : ∀ i ∈ news, ∃ o, ops.toList[i]? = some o ∧ quiet o.op = true) (hu : ∀ i ∈ news, listed.getD i false = false)
    (hold : ∀ i o, ops.toList[i]? = some o → quiet o.op = true → listed.getD i false = false → rH ops.toList done i = true →
      i ∈ news ∨ (aIr ops.toList o env (Val P w0 o env) ∧ (reads P o.op = true → i ∈ olds) ∧ ∀ t ∈ zX ops.toList o, ∀ k ∈ news, ∀ ok, ops.toList[k]? = some ok → ok.dst ≠ some t))
    (h : aBy P (aJ P w0) ops.toList (f + 1) news olds done env M K) :
    ∃ env', Inv P w0 N ops K listed done env' M a w ∧ Rest P w0 ops.toList f done env' M K ∧
      ∀ i o, ops.toList[i]? = some o → quiet o.op = true → listed.getD i false = false → rH ops.toList done i = true → aIr ops.toList o env' (aLm P w0 o env' M) := by
  simp only [aBy] at h
  obtain ⟨env', hK, hf, hP⟩ := aDI hc hn news env M _ hp hq h
  obtain ⟨hrest, hseen⟩ := aID _ _ _ _ hK
  refine ⟨env', ⟨hi.size, hi.frame, ?_, hi.rel, hi.tL, hi.closed⟩, hrest, ?_⟩
  · intro s v hs hall
    refine hi.aCm s v ?_ hall
    rw [← hf s ?_]; exact hs
    intro i hin o ho e
    obtain ⟨o', ho', hqo⟩ := hq i hin
    rw [ho] at ho'; cases ho'
    have := hall i o (ofL ho) hqo e
    rw [hu i hin] at this; cases this
  · intro i o ho hqo hl hav
    rcases hold i o ho hqo hl hav with hin | ⟨hpd, hrd, hlk⟩
    · exact hP i hin o ho
    · by_cases hin : i ∈ news
      · exact hP i hin o ho
      · have hsame : z8 ops.toList o env env' := fun t ht => hf t fun k hk ok hok => hlk t ht k hk ok hok
        have hdst : ∀ d, o.dst = some d → env'.get d = env.get d := fun d hd => hf d fun k hk ok hok e => by
          have := hc.dst i o k ok d ho hok hd e
          subst this; exact hin hk
        rcases hpd with ⟨hg, v, hv⟩ | ⟨hg, hv⟩
        · refine .inl ⟨hsame.ok hg, v, ?_⟩
          have he := hsame.exec (rW hn (List.mem_of_getElem? ho))
          have hv' : Val P w0 o env' v := ⟨by rw [hsame.uI]; exact hv.known, fun d hd => by rw [hdst d hd]; exact hv.dst d hd, fun e w => by rw [he]; exact hv.free e w⟩
          refine ⟨hv', ?_⟩
          cases hr : reads P o.op with
          | false => exact fun w _ => hv'.free hr w
          | true =>
            intro w hw
            have hs := hseen i (hrd hr) o ho (hsame.ok hg)
            unfold seen at hs
            split at hs
            · rename_i d hd
              split at hs
              · rename_i u hu'
                have : u = v := by
                  have := hv'.dst d hd
                  rw [hu'] at this; cases this; rfl
                subst this
                exact aBO hr hs w hw
              · exact hs.elim
            · exact hs.elim
        · exact .inr ⟨hsame.no hg, fun d hd => by rw [hdst d hd]; exact hv d hd⟩
theorem aDl {N : Nat} {ops : Array Oper} {K : Env → Mem → Prop} {listed : Array Bool} {done : Nat} {env : Env} {M : Mem} {a : Act} {w : World} (hc : Chk ops.toList)
    (hi : Inv P w0 N ops K listed done env M a w) {i : Nat} {o : Oper} (ho : ops.toList[i]? = some o) (hanc : ∀ k, (msk ops.toList i).testBit k = true → listed.getD k false = true) :
    (lK ops.toList o env → Region.wanted o (yielded ops a.tmps) = true) ∧ (tI ops.toList o env → Region.wanted o (yielded ops a.tmps) = false) := by
  have get : ∀ j t b, oM ops.toList j = some t → t ∈ zX ops.toList o → env.get t = some (.bool b) → yielded ops a.tmps j = some b := by
    intro j t b hs hl hb
    have hat := hi.aCm t _ hb fun k ok hok hqk hd => hanc k (hc.aCa ho (toL hok) hl hd hqk)
    unfold oM at hs
    unfold yielded
    split at hs
    · rename_i oj hoj
      rw [ofL hoj]
      simp only [Option.bind_some, hs, hat]
    · cases hs
  unfold lK tI Region.wanted
  constructor
  · intro g
    split at g
    · rename_i hg; simp [hg]
    · rename_i j want hg
      obtain ⟨t, hs, hb⟩ := g
      have := get j t want hs (List.mem_append_left _ (by simp [hg, hs])) hb
      simp [hg, this]
  · intro g
    split at g
    · exact g.elim
    · rename_i j want hg
      obtain ⟨t, hs, hb | ⟨c, hb⟩⟩ := g
      · have := get j t (!want) hs (List.mem_append_left _ (by simp [hg, hs])) hb
        simp [hg, this]
      · have hat := hi.aCm t _ hb fun k ok hok hqk hd => hanc k (hc.aCa ho (toL hok) (List.mem_append_left _ (by simp [hg, hs])) hd hqk)
        have : yielded ops a.tmps j = none := by
          unfold oM at hs
          unfold yielded
          split at hs
          · rename_i oj hoj
            rw [ofL hoj]
            simp only [Option.bind_some, hs, hat]
          · cases hs
        simp [hg, this]
theorem aBG {N : Nat} {ops : Array Oper} {K : Env → Mem → Prop} {listed : Array Bool} {done : Nat} {env : Env} {M : Mem} {a : Act} {w : World} (hc : Chk ops.toList) (hn : aAu ops.toList = true)
    (hi : Inv P w0 N ops K listed done env M a w) {i : Nat} {o : Oper} (ho : ops.toList[i]? = some o) (hanc : ∀ k, (msk ops.toList i).testBit k = true → listed.getD k false = true)
    (hk : uI env o = true) : execOp a.eval o = execOp (m9 env) o := by
  refine execOp_congr o (rW hn (List.mem_of_getElem? ho)) fun x hx => ?_
  have hx' := List.all_eq_true.1 hk x (by simpa using hx)
  cases x with
  | tmp t =>
    simp only [ev] at hx'
    obtain ⟨v, hv⟩ := Option.isSome_iff_exists.1 hx'
    have hat := hi.aCm t _ hv fun k ok hok hqk hd => hanc k (hc.aCa ho (toL hok) (List.mem_append_right _ (aCB hx)) hd hqk)
    simp [Act.eval, m9, ev, hv, hat]
  | _ => rfl
theorem Inv.next {N : Nat} {ops : Array Oper} {K : Env → Mem → Prop} {listed : Array Bool} {done done' : Nat} {env env' : Env} {M M' : Mem} {a : Act} {w w' : World} (hd : aCv N ops.toList = true)
    (hc : Chk ops.toList) (hi : Inv P w0 N ops K listed done env M a w) {i : Nat} {o : Oper} (ho : ops.toList[i]? = some o) (hl : listed.getD i true = false) (hdeps : ∀ k ∈ qB o, listed.getD k false = true) (v : Value)
    (hv : ∀ d, o.dst = some d → env'.get d = some v) (he : ∀ s, o.dst ≠ some s → env'.get s = env.get s) (hw : Rel w0 M' w')
    (hdone : ∀ l, done'.testBit l = true ↔ ∃ ol, ops[l]? = some ol ∧ quiet ol.op = false ∧ (l = i ∨ listed.getD l false = true)) :
    Inv P w0 N ops K (listed.setIfInBounds i true) done' env' M' (a.put o.dst v) w' := by
  obtain ⟨hlt, hlf⟩ := vO hl
  refine ⟨by simp [hi.size], ?_, ?_, hw, ?_, ?_⟩
  · cases o.dst <;> simp [Act.put, hi.frame.1, hi.frame.2]
  · intro s u hs hall
    by_cases hds : o.dst = some s
    · have := hv s hds
      rw [this] at hs; cases hs
      have hsN := uW hd (List.mem_of_getElem? ho) s hds
      simp [Act.put, hds, hi.frame.1, hsN]
    · rw [he s hds] at hs
      have := hi.aCm s u hs fun k ok hok hqk hdk => by
        have := hall k ok hok hqk hdk
        rcases (mM hlt).1 this with rfl | h
        · rw [toL hok] at ho; cases ho; exact absurd hdk hds
        · exact h
      cases hdo : o.dst with
      | none => simpa [Act.put] using this
      | some d =>
        have eT : d ≠ s := fun e => hds (by rw [hdo, e])
        simp only [Act.put]
        rw [Array.getElem?_setIfInBounds_ne eT]; exact this
  · intro l
    rw [hdone]
    constructor
    · rintro ⟨ol, h1, h2, h3⟩; exact ⟨ol, h1, h2, (mM hlt).2 h3⟩
    · rintro ⟨ol, h1, h2, h3⟩; exact ⟨ol, h1, h2, (mM hlt).1 h3⟩
  · intro k ok hok hlk j hj
    rcases (mM hlt).1 hlk with rfl | h
    · rw [toL hok] at ho; cases ho
      exact (mM hlt).2 (.inr (hdeps j hj))
    · exact (mM hlt).2 (.inr (hi.closed k ok hok h j hj))
theorem yM {ops : Array Oper} {i k : Nat} (h : (msk ops.toList i).testBit k = true) : tM ops k i :=
  aE0 ops.toList [] (fun j => by simp) (fun i k h => by simp at h) i k h
theorem uE {ops : Array Oper} {k : Nat} : (x7 ops.toList).testBit k = true ↔ ∃ o, ops[k]? = some o ∧ quiet o.op = false := by
  unfold x7
  rw [aG1]
  constructor
  · rintro ⟨j, o, ho, hp, rfl⟩
    exact ⟨o, by rw [Nat.zero_add]; exact ofL ho, by simpa using hp⟩
  · rintro ⟨o, ho, hp⟩
    exact ⟨k, o, toL ho, by simp [hp], by omega⟩
theorem aI8 {N : Nat} {ops : Array Oper} {Q : Exit → Env → Mem → Prop} (hc : Chk ops.toList) (hn : aAu ops.toList = true) (hd : aCv N ops.toList = true) :
    ∀ (n : Nat) (us : List Nat) (listed : Array Bool) (done : Nat) (env : Env) (M : Mem) (a : Act) (w : World) (f : Nat),
      us.length ≤ n → (∀ i, i < ops.size → listed.getD i false = false → i ∈ us) →
      Inv P w0 N ops (fun e m => Q .normal e m) listed done env M a w → Rest P w0 ops.toList f done env M (fun e m => Q .normal e m) →
      (∀ i o, ops.toList[i]? = some o → quiet o.op = true → listed.getD i false = false → rH ops.toList done i = true → aIr ops.toList o env (aLm P w0 o env M)) →
      wpAny P .any ops (lift w0 N Q) n listed a w := by
  intro n
  induction n with
  | zero =>
    intro us listed done env M a w f hlen hus hi hrest hpend
    have hnil : us = [] := List.eq_nil_of_length_eq_zero (Nat.le_zero.1 hlen)
    have hall : ∀ i o, ops[i]? = some o → listed.getD i false = true := fun i o ho => by
      cases hl : listed.getD i false with
      | true => rfl
      | false =>
        have := hus i (Array.getElem?_eq_some_iff.1 ho).1 hl
        rw [hnil] at this; cases this
    refine ⟨?_, ?_⟩
    · cases hr : Region.ready .any ops listed with
      | nil => rfl
      | cons i r =>
        have hm : i ∈ Region.ready .any ops listed := by rw [hr]; exact List.mem_cons_self
        obtain ⟨h0, o, ho, _⟩ := mem_ready.1 hm
        have h1 := (vO h0).2
        rw [hall i o ho] at h1; cases h1
    · have hs : sub (x7 ops.toList) done = true := aBg fun k hk => by
        obtain ⟨o, ho, hq⟩ := uE.1 hk
        exact (hi.tL k).2 ⟨o, ho, hq, hall k o ho⟩
      unfold Rest at hrest
      rw [hs] at hrest
      exact ⟨env, M, hrest, y6 hi hall, hi.rel⟩
  | succ n ih =>
    intro us listed done env M a w f hlen hus hi hrest hpend
    refine ⟨?_, ?_⟩
    · intro hr
      have hall' : ∀ i, i < ops.size → listed.getD i false = true := by
        intro i
        induction i using Nat.strongRecOn with
        | _ i ihi =>
          intro hlt
          cases hl : listed.getD i false with
          | true => rfl
          | false =>
            exfalso
            have ho : ops[i]? = some ops[i] := by simp [hlt]
            have hm : i ∈ Region.ready .any ops listed := by
              refine mem_ready.2 ⟨?_, ops[i], ho, ?_⟩
              · have hsz := hi.size
                simp [hsz, hlt] at hl ⊢; exact hl
              · intro e he hb
                have hk : e.on ∈ qB ops[i] := by
                  unfold qB
                  exact List.mem_filterMap.2 ⟨e, by simpa using he, by rw [hb]⟩
                have hlt' := hc.dep i _ (toL ho) _ hk
                exact ihi e.on hlt' (by omega)
            rw [hr] at hm; cases hm
      have hall : ∀ i o, ops[i]? = some o → listed.getD i false = true := fun i o ho => hall' i (Array.getElem?_eq_some_iff.1 ho).1
      have hs : sub (x7 ops.toList) done = true := aBg fun k hk => by
        obtain ⟨o, ho, hq⟩ := uE.1 hk
        exact (hi.tL k).2 ⟨o, ho, hq, hall k o ho⟩
      unfold Rest at hrest
      rw [hs] at hrest
      exact ⟨env, M, hrest, y6 hi hall, hi.rel⟩
    · intro i hir
      obtain ⟨h0, o, ho, hall⟩ := mem_ready.1 hir
      obtain ⟨hlt, hlf⟩ := vO h0
      have hoL := toL ho
      have hdeps : ∀ k ∈ qB o, listed.getD k false = true := by
        intro k hk
        unfold qB at hk
        obtain ⟨e, he, hek⟩ := List.mem_filterMap.1 hk
        split at hek
        · rename_i hb; cases hek; exact hall e (by simpa using he) hb
        · cases hek
      have hanc : ∀ k, (msk ops.toList i).testBit k = true → listed.getD k false = true := fun k hk =>
        tU (fun i o h1 h2 => hi.closed i o h1 h2) (yM hk) o ho hdeps
      have hav : rH ops.toList done i = true := aBg fun k hk => by
        simp only [Nat.testBit_and, Bool.and_eq_true] at hk
        obtain ⟨ok, hok, hq⟩ := uE.1 hk.2
        exact (hi.tL k).2 ⟨ok, hok, hq, hanc k hk.1⟩
      have hus' : ∀ k, k < ops.size → (listed.setIfInBounds i true).getD k false = false → k ∈ us.erase i := fun k hk hkl => by
        have eT : k ≠ i := fun e => by
          have := (mM hlt).2 (.inl e)
          rw [this] at hkl; cases hkl
        refine (List.mem_erase_of_ne eT).2 (hus k hk ?_)
        cases h : listed.getD k false with
        | false => rfl
        | true =>
          have := (mM hlt).2 (.inr h)
          rw [this] at hkl; cases hkl
      have hlen' : (us.erase i).length ≤ n := by
        have hm := hus i (by have := hi.size; omega) hlf
        rw [List.length_erase_of_mem hm]; omega
      obtain ⟨hw1, hw2⟩ := aDl hc hi hoL hanc
      unfold wpOp
      rw [ho]
      simp only
      cases hqo : quiet o.op with
      | true =>
        have fin : ∀ v, (∀ d, o.dst = some d → env.get d = some v) → wpAny P .any ops (lift w0 N Q) n (listed.setIfInBounds i true) (a.put o.dst v) w := fun v hv => by
          refine ih (us.erase i) _ done env M _ w f hlen' hus' (hi.next hd hc hoL h0 hdeps v hv (fun _ _ => rfl) hi.rel ?_) hrest ?_
          · intro l
            rw [hi.tL]
            constructor
            · rintro ⟨ol, h1, h2, h3⟩; exact ⟨ol, h1, h2, .inr h3⟩
            · rintro ⟨ol, h1, h2, h3⟩
              rcases h3 with rfl | h3
              · rw [ho] at h1; cases h1; rw [hqo] at h2; cases h2
              · exact ⟨ol, h1, h2, h3⟩
          · intro k ok hok hqk hlk hak
            refine hpend k ok hok hqk ?_ hak
            cases h : listed.getD k false with
            | false => rfl
            | true =>
              have := (mM hlt).2 (.inr h)
              rw [this] at hlk; cases hlk
        rcases hpend i o hoL hqo hlf hav with ⟨hg, v, hv, hvm⟩ | ⟨hg, hv⟩
        · rw [if_pos (hw1 hg)]
          refine .inl ?_
          unfold Oper.wp
          rw [aBG hc hn hi hoL hanc hv.known, hvm w hi.rel]
          exact fin v hv.dst
        · rw [if_neg (by rw [hw2 hg]; simp)]
          exact fin undef hv
      | false =>
        have fW : done.testBit i = false := by
          cases h : done.testBit i with
          | false => rfl
          | true =>
            obtain ⟨_, _, _, h3⟩ := (hi.tL i).1 h
            rw [hlf] at h3; cases h3
        have hns : sub (x7 ops.toList) done = false := by
          cases h : sub (x7 ops.toList) done with
          | false => rfl
          | true =>
            have := zE h (uE.2 ⟨o, ho, hqo⟩)
            rw [fW] at this; cases this
        unfold Rest at hrest
        rw [hns] at hrest
        have hrl : i ∈ aDu ops.toList done := xX.2 ⟨o, hoL, by simp [hqo, fW, hav]⟩
        have hstep := aEj hrest hrl
        rw [hoL] at hstep
        simp only at hstep
        have fin : ∀ v M' w', aBy P (aJ P w0) ops.toList f (aAs ops.toList (done ||| 2 ^ i) done) (aDP P ops.toList (done ||| 2 ^ i) done) (done ||| 2 ^ i) (env.put o.dst v) M' (fun e m => Q .normal e m) → Rel w0 M' w' →
            wpAny P .any ops (lift w0 N Q) n (listed.setIfInBounds i true) (a.put o.dst v) w' := fun v M' w' hF hw' => by
          cases f with
          | zero => simp only [aBy] at hF
          | succ f =>
            have hdone' : ∀ l, (done ||| 2 ^ i).testBit l = true ↔ ∃ ol, ops[l]? = some ol ∧ quiet ol.op = false ∧ (l = i ∨ listed.getD l false = true) := by
              intro l
              simp only [Nat.testBit_or, Bool.or_eq_true, Nat.testBit_two_pow, decide_eq_true_eq, hi.tL]
              constructor
              · rintro (⟨ol, h1, h2, h3⟩ | rfl)
                · exact ⟨ol, h1, h2, .inr h3⟩
                · exact ⟨o, ho, hqo, .inl rfl⟩
              · rintro ⟨ol, h1, h2, h3⟩
                rcases h3 with rfl | h3
                · exact .inr rfl
                · exact .inl ⟨ol, h1, h2, h3⟩
            have hinv' := hi.next (env' := env.put o.dst v) hd hc hoL h0 hdeps v (fun d hd => by rw [hd]; exact zA) (fun s hs => zL hs) hw' hdone'
            have hq : ∀ k ∈ aAs ops.toList (done ||| 2 ^ i) done, ∃ o, ops.toList[k]? = some o ∧ quiet o.op = true ∧ rH ops.toList (done ||| 2 ^ i) k = true ∧ rH ops.toList done k = false := fun k hk => by
              obtain ⟨ok, h1, h2⟩ := xX.1 hk
              simp only [Bool.and_eq_true, Bool.not_eq_true'] at h2
              exact ⟨ok, h1, h2.1.1, h2.1.2, h2.2⟩
            have hA : ∀ k ∈ aAs ops.toList (done ||| 2 ^ i) done, (listed.setIfInBounds i true).getD k false = false := by
              intro k hk
              obtain ⟨ok, h1, h2, h3, h4⟩ := hq k hk
              cases hlk : (listed.setIfInBounds i true).getD k false with
              | false => rfl
              | true =>
                exfalso
                rcases (mM hlt).1 hlk with rfl | hlk
                · rw [hoL] at h1; cases h1; rw [hqo] at h2; cases h2
                · -- it was listed: so all aAe ones ahead of it were
                  have : rH ops.toList done k = true := aBg fun j hj => by
                    simp only [Nat.testBit_and, Bool.and_eq_true] at hj
                    obtain ⟨oj, hoj, hqj⟩ := uE.1 hj.2
                    exact (hi.tL j).2 ⟨oj, hoj, hqj, tU (fun i o h1 h2 => hi.closed i o h1 h2) (yM hj.1) ok (ofL h1) (hi.closed k ok (ofL h1) hlk)⟩
                  rw [this] at h4; cases h4
            have hB : ∀ k ok, ops.toList[k]? = some ok → quiet ok.op = true → (listed.setIfInBounds i true).getD k false = false → rH ops.toList (done ||| 2 ^ i) k = true →
                k ∈ aAs ops.toList (done ||| 2 ^ i) done ∨ (aIr ops.toList ok (env.put o.dst v) (Val P w0 ok (env.put o.dst v)) ∧ (reads P ok.op = true → k ∈ aDP P ops.toList (done ||| 2 ^ i) done) ∧
                  ∀ t ∈ zX ops.toList ok, ∀ j ∈ aAs ops.toList (done ||| 2 ^ i) done, ∀ oj, ops.toList[j]? = some oj → oj.dst ≠ some t) := by
              intro k ok hok hqk hlk hak
              have hlk' : listed.getD k false = false := by
                cases h : listed.getD k false with
                | false => rfl
                | true =>
                  have := (mM hlt).2 (.inr h)
                  rw [this] at hlk; cases hlk
              cases hak' : rH ops.toList done k with
              | false => exact .inl (xX.2 ⟨ok, hok, by simp [hqk, hak, hak']⟩)
              | true =>
                right
                have hki : k ≠ i := fun e => by subst e; rw [hoL] at hok; cases hok; rw [hqo] at hqk; cases hqk
                have hnl : ∀ t ∈ zX ops.toList ok, o.dst ≠ some t := fun t ht e => by
                  have h1 : (msk ops.toList k).testBit i = true := by
                    rcases hc.look k ok i o t hok hoL ht e with h | ⟨_, h⟩
                    · exact h
                    · have := hanc k h
                      rw [hlk'] at this; cases this
                  have h2 := zE hak' (k := i) (by simp only [Nat.testBit_and, h1, uE.2 ⟨o, ho, hqo⟩]; rfl)
                  rw [fW] at h2; cases h2
                have hsame : z8 ops.toList ok env (env.put o.dst v) := fun t ht => zL (hnl t ht)
                have hdst : ∀ d, ok.dst = some d → (env.put o.dst v).get d = env.get d := fun d hd => zL fun e => hki (hc.dst i o k ok d hoL hok e hd)
                refine ⟨?_, ?_, ?_⟩
                · rcases hpend k ok hok hqk hlk' hak' with ⟨hg, u, hu, _⟩ | ⟨hg, hu⟩
                  · have he := hsame.exec (rW hn (List.mem_of_getElem? hok))
                    exact .inl ⟨hsame.ok hg, u, by rw [hsame.uI]; exact hu.known, fun d hd => by rw [hdst d hd]; exact hu.dst d hd, fun e w => by rw [he]; exact hu.free e w⟩
                  · exact .inr ⟨hsame.no hg, fun d hd => by rw [hdst d hd]; exact hu d hd⟩
                · intro hr
                  refine xX.2 ⟨ok, hok, ?_⟩
                  simp only [hqk, hr, hak', Bool.and_eq_true, Bool.true_and, Bool.not_eq_true']
                  cases hsp : aIf ops.toList (done ||| 2 ^ i) k with
                  | false => simp
                  | true =>
                    exfalso
                    unfold aIf at hsp
                    obtain ⟨l, _, hl⟩ := List.any_eq_true.1 hsp
                    simp only [Bool.and_eq_true] at hl
                    obtain ⟨ol, hol, hql, hll⟩ := (hdone' l).1 hl.1
                    have : listed.getD k false = true := by
                      rcases hll with rfl | hll
                      · exact hanc k hl.2
                      · exact tU (fun i o h1 h2 => hi.closed i o h1 h2) (yM hl.2) ol hol (hi.closed l ol hol hll)
                    rw [hlk'] at this; cases this
                · intro t ht j hj oj hoj e
                  obtain ⟨oj', h1, h2, h3, h4⟩ := hq j hj
                  rw [hoj] at h1; cases h1
                  have hb := hc.aCa hok hoj ht e h2
                  have htr := hc.tr k ok j oj hok hoj hb
                  have : rH ops.toList done j = true := aBg fun x hx => by
                    simp only [Nat.testBit_and, Bool.and_eq_true] at hx
                    exact zE hak' (by simp only [Nat.testBit_and, zE htr hx.1, hx.2]; rfl)
                  rw [this] at h4; cases h4
            obtain ⟨env', hi2, hr2, hp2⟩ := enter hc hn hinv' (zF _) (fun k hk => let ⟨ok, h1, h2, _⟩ := hq k hk; ⟨ok, h1, h2⟩) hA hB hF
            exact ih (us.erase i) _ _ env' M' _ w' f hlen' hus' hi2 hr2 hp2
        rcases aEn hstep with ⟨hg, hdo⟩ | ⟨hg, hK⟩
        · rw [if_pos (hw1 hg)]
          refine .inl ?_
          obtain ⟨hk, h3⟩ := aCx hdo
          exact h3 a w _ _ (aBG hc hn hi hoL hanc hk) hi.rel fun v M' w' hK hrel => fin v M' w' hK hrel
        · rw [if_neg (by rw [hw2 hg]; simp)]
          exact fin undef M w hK hi.rel
theorem aEE {N : Nat} {ops : Array Oper} {Q : Exit → Env → Mem → Prop} (hc : chk ops.toList = true) (hn : aAu ops.toList = true) (hd : aCv N ops.toList = true) {env : Env} {M : Mem} {a : Act} {w : World}
    (h : draw P (aJ P w0) ops.toList env M (fun e m => Q .normal e m)) (he : pD N env a) (hw : Rel w0 M w) :
    wpAny P .any ops (lift w0 N Q) ops.size (Array.replicate ops.size false) a w := by
  have hc := aJn hc
  have hz : ∀ i, (Array.replicate ops.size false).getD i false = false := fun i => by simp [Array.getElem?_replicate]; split <;> rfl
  have hi : Inv P w0 N ops (fun e m => Q .normal e m) (Array.replicate ops.size false) 0 env M a w := by
    refine ⟨by simp, ⟨he.1, he.2.1⟩, fun s v hs _ => he.2.2 s v hs, hw, fun l => ?_, fun i o _ h => ?_⟩
    · constructor
      · intro h; simp at h
      · rintro ⟨o, _, _, h3⟩; rw [hz] at h3; cases h3
    · rw [hz] at h; cases h
  obtain ⟨env', hi2, hr2, hp2⟩ := enter hc hn hi (zF _) (fun k hk => by
    obtain ⟨ok, h1, h2⟩ := xX.1 hk
    simp only [Bool.and_eq_true] at h2
    exact ⟨ok, h1, h2.1⟩) (fun i _ => hz i) (fun i o ho hq _ hav => .inl (xX.2 ⟨o, ho, by simp [hq, hav]⟩)) h
  exact aI8 hc hn hd ops.size (List.range ops.size) _ 0 env' M a w _ (by simp) (fun i hi _ => List.mem_range.2 hi) hi2 hr2 hp2
end
end Go.Proofs.YtodobkbnmjgkdaaGreat.HL
