import Derived.Test.YtodobkbnmjgkdaaGreatPd1
set_option linter.unusedVariables false
set_option linter.unusedSimpArgs false
namespace Go.Proofs.YtodobkbnmjgkdaaGreat.HL
open Go.RowKit (Below)
def guards (ops : List Oper) (i : Nat) : Bool := ops.any fun o => match o.guard with
  | some (j, _) => Nat.beq j i
  | none => false
def fin (ops : List Oper) (i : Nat) (dst : Option Nat) (env : Env) (v : Value) (K : Env → Prop) : Prop := match guards ops i with
  | true => shB v fun b => bs b (K (env.put dst (.bool true))) (K (env.put dst (.bool false)))
  | false => K (env.put dst v)
theorem wK {ops : List Oper} {i : Nat} {dst : Option Nat} {env : Env} {v : Value} {K : Env → Prop} (h : fin ops i dst env v K) : K (env.put dst v) := by
  unfold fin at h
  split at h
  · obtain ⟨b, rfl, h⟩ := aAk h
    rcases aEh h with ⟨rfl, h⟩ | ⟨rfl, h⟩ <;> exact h
  · exact h
def oS (ops : List Oper) (j : Nat) : Option Nat := match ops[j]? with
  | some o => o.dst
  | none => none
section
variable (P : Program) (pr : Prim)
def zeroOf (e : TypeId) : Option Value := match P.info? e with
  | some i => i.zero
  | none => none
def aDM (ops : List Oper) (i : Nat) (o : Oper) (env : Env) (M : Mem) (K : Env → Mem → Prop) : Prop := match tK env o with
  | false => False
  | true => match o.op with
    | .call ⟨.value x, args, _⟩ => match mW env x with
      | .func (.func f) first cap => pr.call f ((first.toList ++ (args.toList.map (mW env) ++ cap.toList)).toArray) (fun v M' => shO P o.type v fun v' => fin ops i o.dst env v' fun env' => K env' M') M
      | _ => False
    | .store t a x => match mW env a with
      | .pointer (some ad) => pr.st t ad (mW env x) (fun M' => K (env.put o.dst undef) M') M
      | _ => False
    | .mapUpdate t m k x => pr.mup t (mW env m) (mW env k) (mW env x) (fun M' => K (env.put o.dst undef) M') M
    | .insert t m k x => pr.mup t (mW env m) (mW env k) (mW env x) (fun M' => K (env.put o.dst undef) M') M
    | .entryStore t m k x => pr.mes t (mW env m) (mW env k) (mW env x) (fun M' => K (env.put o.dst undef) M') M
    | .mapEntry t m k => pr.men t (mW env m) (mW env k) (fun v n M' => fin ops i o.dst env (.tuple #[v, .int .i64 n]) fun env' => K env' M') M
    | .alloc e => match zeroOf P e with
      | some z => pr.nw z.cells.toList e (fun b M' => shO P o.type (.pointer (some ⟨b, 0, none⟩)) fun v' => fin ops i o.dst env v' fun env' => K env' M') M
      | none => False
    | .box e x => pr.nw (mW env x).cells.toList e (fun b M' => shO P o.type (.pointer (some ⟨b, 0, none⟩)) fun v' => fin ops i o.dst env v' fun env' => K env' M') M
    | .buildSlice t n parts => pr.bsl t n (parts.toList.map fun p => (p.1, mW env p.2)) (fun v M' => shO P o.type v fun v' => fin ops i o.dst env v' fun env' => K env' M') M
    | .makeSlice t l c => pr.mks t (mW env l) (mW env c) (fun v M' => shO P o.type v fun v' => fin ops i o.dst env v' fun env' => K env' M') M
    | .makeMap t r => pr.mkm t (r.map (mW env)) (fun v M' => shO P o.type v fun v' => fin ops i o.dst env v' fun env' => K env' M') M
    | .call ⟨.builtin .append, args, tys⟩ => pr.app tys o.type (args.toList.map (mW env)) (fun v M' => shO P o.type v fun v' => fin ops i o.dst env v' fun env' => K env' M') M
    | .call ⟨.builtin .copy, args, tys⟩ => pr.cpy tys o.type (args.toList.map (mW env)) (fun v M' => shO P o.type v fun v' => fin ops i o.dst env v' fun env' => K env' M') M
    | .call ⟨.builtin .delete, args, tys⟩ => pr.del tys o.type (args.toList.map (mW env)) (fun v M' => shO P o.type v fun v' => fin ops i o.dst env v' fun env' => K env' M') M
    | .call ⟨.builtin .clear, args, tys⟩ => pr.clr tys o.type (args.toList.map (mW env)) (fun v M' => shO P o.type v fun v' => fin ops i o.dst env v' fun env' => K env' M') M
    | _ => aG5 P pr M (mW env) o fun v => shO P o.type v fun v' => fin ops i o.dst env v' fun env' => K env' M
def aEO (ops : List Oper) (i : Nat) (o : Oper) (env : Env) (M : Mem) (K : Env → Mem → Prop) : Prop := match o.guard with
  | none => aDM P pr ops i o env M K
  | some (j, want) => match oS ops j with
    | none => False
    | some t => match env.get t with
      | some (.bool b) => match b == want with
        | true => aDM P pr ops i o env M K
        | false => K (env.put o.dst undef) M
      | some (.tuple _) => K (env.put o.dst undef) M
      | _ => False
def zP (ops : List Oper) : Nat → List Oper → Env → Mem → (Env → Mem → Prop) → Prop
  | _, [], env, M, K => K env M
  | i, o :: r, env, M, K => aEO P pr ops i o env M fun env' M' => zP ops (i + 1) r env' M' K
variable {P pr} {w0 : World}
theorem aGn {ρ : Operand → Value} {o : Oper} {x : Operand} {args : Array Operand} {tys : Array TypeId} {f : FuncId} {first cap : Array Value}
    (ho : o.op = .call ⟨.value x, args, tys⟩) (hx : ρ x = .func (.func f) first cap) (hc : oI P f = true) (w : World) :
    (execOp ρ o).run P w = .ok (.enter f ((first.toList ++ (args.toList.map ρ ++ cap.toList)).toArray)) w := by
  obtain ⟨dst, op, type, pos, after, guard⟩ := o
  simp only at ho; subst ho
  unfold oI at hc
  split at hc
  · rename_i fn hf
    simp only [Bool.and_eq_true, Bool.not_eq_true'] at hc
    have e : (first.toList ++ (args.toList.map ρ ++ cap.toList)).toArray = (first ++ args.map ρ) ++ cap := by
      apply Array.toList_inj.1; simp
    have h1 : ¬ fn.name = "runtime.NumGoroutine" := by simpa using hc.1
    have h2 : ¬ fn.body = none := by
      intro hb
      rw [hb] at hc
      simp at hc
    rw [e]
    simp [execOp, resolve, hx, Deferred.ofValue, invoke, callFunc, program, Sem.run, hf, h1, h2]
  · cases hc
theorem aG7 {ρ : Operand → Value} {o : Oper} {x : Operand} {args : Array Operand} {tys : Array TypeId} {f : FuncId} {first cap : Array Value}
    (ho : o.op = .call ⟨.value x, args, tys⟩) (hx : ρ x = .func (.func f) first cap) {w w' : World} {v : Value} (hr : (callFunc f ((first.toList ++ (args.toList.map ρ ++ cap.toList)).toArray)).run P w = .ok (.value v) w') :
    (execOp ρ o).run P w = .ok (.value v) w' := by
  obtain ⟨dst, op, type, pos, after, guard⟩ := o
  simp only at ho; subst ho
  have e : (first.toList ++ (args.toList.map ρ ++ cap.toList)).toArray = (first ++ args.map ρ) ++ cap := by
    apply Array.toList_inj.1; simp
  rw [e] at hr
  simp only [execOp, resolve, hx, Deferred.ofValue, invoke]
  exact hr
def aLk (P : Program) (w0 : World) (o : Oper) (ρ : Operand → Value) (M : Mem) (K : VP) : Prop :=
  ∀ (a : Act) (w : World) (next : Act → World → Prop) (Q : Exit → Act → World → Prop), execOp a.eval o = execOp ρ o → Rel w0 M w →
    (∀ v M' w', K v M' → Rel w0 M' w' → next (a.put o.dst v) w') → o.wp P a w next Q
theorem aGu {e : TypeId} {z : Value} {K : VP} {M : Mem} (hz : zeroOf P e = some z) (h : nw w0 z.cells.toList e (fun b M' => K (.pointer (some ⟨b, 0, none⟩)) M') M) :
    act P w0 (Instr.alloc e true (.tuple #[])) K M := by
  unfold zeroOf at hz
  split at hz
  · rename_i i hi
    have : Instr.alloc e true (.tuple #[]) = (do pure (.pointer (some (← newVar e (← zeroValue e))))) := rfl
    rw [this, eC]
    simp only [zeroValue, typeInfo]
    rw [eC, eC]
    simp only [program, act, hi]
    show act P w0 (match i.zero with | some v => pure v | none => _) _ M
    rw [hz]
    show act P w0 (newVar e z >>= _) _ M
    rw [eC]
    exact ⟨rfl, h⟩
  · cases hz
theorem aIJ {e : TypeId} {v : Value} {K : VP} {M : Mem} (h : nw w0 v.cells.toList e (fun b M' => K (.pointer (some ⟨b, 0, none⟩)) M') M) :
    act P w0 (Instr.box e v) K M := ⟨rfl, h⟩
theorem aCe {ops : List Oper} {i : Nat} {o : Oper} {env : Env} {M : Mem} {K : Env → Mem → Prop} (h : aDM P (aJ P w0) ops i o env M K) :
    tK env o = true ∧ aLk P w0 o (mW env) M fun v M' => K (env.put o.dst v) M' := by
  unfold aDM at h
  split at h
  · exact h.elim
  · rename_i hk
    refine ⟨hk, ?_⟩
    intro a w next Q he hw hnext
    unfold Oper.wp
    rw [he]
    have zS : ∀ (s : Sem Value), uM (mW env) o = some s → act P w0 s (fun v M' => shO P o.type v fun v' => fin ops i o.dst env v' fun env' => K env' M') M →
        Oper.upon P o a next Q ((execOp (mW env) o).run P w) := fun s hs h => by
      obtain ⟨v, w', hr, M', hq, hrel⟩ := zI hw h
      rw [aCb hs, gP hr]
      exact hnext v M' w' (wK (xZ hq)) hrel
    have mute : ∀ (s : Sem Unit), aDS (mW env) o = some s → act P w0 s (fun _ M' => K (env.put o.dst undef) M') M →
        Oper.upon P o a next Q ((execOp (mW env) o).run P w) := fun s hs h => by
      obtain ⟨u, w', hr, M', hq, hrel⟩ := zI hw h
      rw [aFM hs, aH2 hr]
      exact hnext undef M' w' hq hrel
    split at h
    · rename_i x args tys ho
      split at h
      · rename_i f first cap hx
        rcases h with h | h
        · rw [aGn ho hx h.1 w]
          refine (h.2 w hw).mono ?_
          rintro e w' ⟨v, M', rfl, hR, hrel⟩
          exact hnext v M' w' (wK (xZ hR)) hrel
        · obtain ⟨v, w', M', hr, hR, hrel⟩ := h w hw
          rw [aG7 ho hx hr]
          exact hnext v M' w' (wK (xZ hR)) hrel
      · exact h.elim
    · rename_i t p x ho
      split at h
      · rename_i ad had
        refine mute (Instr.storeAt t (mW env p) (mW env x)) (by simp only [aDS, ho]) ?_
        rw [had]; exact h
      · exact h.elim
    · rename_i t m k x ho
      exact mute (Instr.mapUpdate t (mW env m) (mW env k) (mW env x)) (by simp only [aDS, ho]) h
    · rename_i t m k x ho
      exact mute (Instr.mapUpdate t (mW env m) (mW env k) (mW env x)) (by simp only [aDS, ho]) h
    · rename_i t m k x ho
      exact mute (Instr.entryStore t (mW env m) (mW env k) (mW env x)) (by simp only [aDS, ho]) h
    · rename_i t m k ho
      have hs : uM (mW env) o = some (Instr.mapEntry t (mW env m) (mW env k)) := by simp only [uM, ho]
      obtain ⟨r, w', hr, M', ⟨v, n, rfl, hq⟩, hrel⟩ := zI hw h
      rw [aCb hs, gP hr]
      exact hnext _ M' w' (wK hq) hrel
    · rename_i e ho
      split at h
      · rename_i z hz
        exact zS (Instr.alloc e true (.tuple #[])) (by simp only [uM, ho]) (aGu hz h)
      · exact h.elim
    · rename_i e x ho
      exact zS (Instr.box e (mW env x)) (by simp only [uM, ho]) (aIJ h)
    · rename_i t n parts ho
      have hs : uM (mW env) o = some (Instr.buildSlice t n (parts.toList.map fun p : Nat × Operand => (p.1, mW env p.2)).toArray) := by simp only [uM, ho]
      exact zS _ hs h
    · rename_i t l c ho
      exact zS (Instr.makeSlice t (mW env l) (mW env c)) (by simp only [uM, ho]) h
    · rename_i t r ho
      exact zS (Instr.makeMap t (r.map (mW env))) (by simp only [uM, ho]) h
    · rename_i args tys ho
      exact zS (Builtin.append_ tys o.type (args.toList.map (mW env)).toArray) (by simp only [uM, ho]) h
    · rename_i args tys ho
      exact zS (Builtin.copy_ tys o.type (args.toList.map (mW env)).toArray) (by simp only [uM, ho]) h
    · rename_i args tys ho
      exact zS (Builtin.delete_ tys o.type (args.toList.map (mW env)).toArray) (by simp only [uM, ho]) h
    · rename_i args tys ho
      exact zS (Builtin.clear_ tys o.type (args.toList.map (mW env)).toArray) (by simp only [uM, ho]) h
    · obtain ⟨v, hK, _, hv⟩ := zZ h
      rw [hv w hw]
      exact hnext v M w (wK (xZ hK)) hw
theorem aDC {N : Nat} {env : Env} {a : Act} (h : oB N env a) {ops : Array Oper} {j t : Nat} {b : Bool} (hs : oS ops.toList j = some t) (hg : env.get t = some (.bool b)) :
    yielded ops a.tmps j = some b := by
  unfold oS at hs
  unfold yielded
  split at hs
  · rename_i o ho
    have ho' : ops[j]? = some o := by simpa using ho
    rw [ho']
    simp only [Option.bind_some, hs, h.2.2 t _ hg]
  · cases hs
theorem aBD {N : Nat} {env : Env} {a : Act} (h : oB N env a) {ops : Array Oper} {j t : Nat} {c : Array Value} (hs : oS ops.toList j = some t) (hg : env.get t = some (.tuple c)) :
    yielded ops a.tmps j = none := by
  unfold oS at hs
  unfold yielded
  split at hs
  · rename_i o ho
    have ho' : ops[j]? = some o := by simpa using ho
    rw [ho']
    simp only [Option.bind_some, hs, h.2.2 t _ hg]
  · cases hs
def aBO (N : Nat) (ops : List Oper) : Bool := ops.all fun o => match o.dst with
  | some d => Nat.blt d N
  | none => true
def aAb (ops : List Oper) : Bool := ops.all fun o => match o.op with
  | .select .. => false
  | _ => true
theorem tP {N : Nat} {ops : List Oper} (h : aBO N ops = true) {o : Oper} (ho : o ∈ ops) : ∀ s, o.dst = some s → s < N := by
  intro s hs
  have := List.all_eq_true.1 h o ho
  simp only [hs] at this
  exact Nat.le_of_ble_eq_true this
theorem rC {ops : List Oper} (h : aAb ops = true) {o : Oper} (ho : o ∈ ops) : ∀ cs b, o.op ≠ .select cs b := by
  intro cs b e
  have := List.all_eq_true.1 h o ho
  simp [e] at this
def lift (w0 : World) (N : Nat) (Q : Exit → Env → Mem → Prop) : Exit → Act → World → Prop := fun e a w => ∃ env M, Q e env M ∧ oB N env a ∧ Rel w0 M w
theorem aCB {N : Nat} {ops : Array Oper} {Q : Exit → Env → Mem → Prop} (hd : aBO N ops.toList = true) (hn : aAb ops.toList = true) :
    ∀ (l : List Oper) (i : Nat) (env : Env) (M : Mem) (a : Act) (w : World), (∀ o ∈ l, o ∈ ops.toList) → zP P (aJ P w0) ops.toList i l env M (fun env' M' => Q .normal env' M') →
      oB N env a → Rel w0 M w → wpList P ops (lift w0 N Q) l a w := by
  intro l
  induction l with
  | nil => intro i env M a w _ h he hw; exact ⟨env, M, h, he, hw⟩
  | cons o r ih =>
    intro i env M a w hm h he hw
    have hr : ∀ o ∈ r, o ∈ ops.toList := fun o' ho' => hm o' (List.mem_cons_of_mem _ ho')
    have ho := hm o List.mem_cons_self
    simp only [zP, aEO] at h
    unfold wpList
    have go : aDM P (aJ P w0) ops.toList i o env M (fun env' M' => zP P (aJ P w0) ops.toList (i + 1) r env' M' fun env' M' => Q .normal env' M') →
        o.wp P a w (wpList P ops (lift w0 N Q) r) (lift w0 N Q) := fun hdo => by
      obtain ⟨hk, h3⟩ := aCe hdo
      exact h3 a w _ _ (he.exec hk (rC hn ho)) hw fun v M' w' hK hrel => ih (i + 1) _ M' _ w' hr hK (he.put _ _ (tP hd ho)) hrel
    cases hg : o.guard with
    | none =>
      simp only [hg] at h
      rw [if_pos (by simp [Region.wanted, hg])]
      exact .inl (go h)
    | some jw =>
      obtain ⟨j, want⟩ := jw
      simp only [hg] at h
      split at h
      · exact h.elim
      · rename_i t hs
        split at h
        · rename_i b hb
          have hy := aDC he hs hb
          split at h
          · rename_i hbw
            rw [if_pos (by simp only [Region.wanted, hg, hy]; have := eq_of_beq hbw; subst this; simp)]
            exact .inl (go h)
          · rename_i hbw
            rw [if_neg (by simp only [Region.wanted, hg, hy]; cases b <;> cases want <;> simp_all)]
            exact ih (i + 1) _ M _ w hr h (he.put _ _ (tP hd ho)) hw
        · rename_i c hb
          have hy := aBD he hs hb
          rw [if_neg (by simp only [Region.wanted, hg, hy]; simp)]
          exact ih (i + 1) _ M _ w hr h (he.put _ _ (tP hd ho)) hw
        · exact h.elim
def pU (o : Oper) : List Nat := o.after.toList.filterMap fun e => match Region.binds .any e with
  | true => some e.on
  | false => none
def ahead : List Oper → List Nat → List Nat
  | [], acc => acc
  | o :: r, acc => ahead r (acc ++ [(pU o).foldl (fun m k => m ||| 2 ^ k ||| acc.getD k 0) 0])
inductive sM (ops : Array Oper) : Nat → Nat → Prop
  | base {i k : Nat} {o : Oper} (ho : ops[i]? = some o) (hk : k ∈ pU o) : sM ops k i
  | step {i j k : Nat} (h : sM ops k j) (h' : sM ops j i) : sM ops k i
theorem aFZ {acc : List Nat} : ∀ (l : List Nat) (m i : Nat), (l.foldl (fun m k => m ||| 2 ^ k ||| acc.getD k 0) m).testBit i = true →
    m.testBit i = true ∨ ∃ k ∈ l, i = k ∨ (acc.getD k 0).testBit i = true := by
  intro l
  induction l with
  | nil => intro m i h; exact .inl h
  | cons k r ih =>
    intro m i h
    simp only [List.foldl_cons] at h
    rcases ih _ _ h with h | ⟨k', hk', h⟩
    · simp only [Nat.testBit_or, Bool.or_eq_true, Nat.testBit_two_pow, decide_eq_true_eq] at h
      rcases h with (h | h) | h
      · exact .inl h
      · exact .inr ⟨k, List.mem_cons_self, .inl h.symm⟩
      · exact .inr ⟨k, List.mem_cons_self, .inr h⟩
    · exact .inr ⟨k', List.mem_cons_of_mem _ hk', h⟩
theorem aEk {ops : Array Oper} : ∀ (l : List Oper) (acc : List Nat), (∀ j, l[j]? = ops[acc.length + j]?) →
    (∀ i k, (acc.getD i 0).testBit k = true → sM ops k i) → ∀ i k, ((ahead l acc).getD i 0).testBit k = true → sM ops k i := by
  intro l
  induction l with
  | nil => intro acc _ h; exact h
  | cons o r ih =>
    intro acc hl h
    simp only [ahead]
    refine ih _ ?_ ?_
    · intro j
      have := hl (j + 1)
      simp only [List.getElem?_cons_succ] at this
      rw [this]
      simp only [List.length_append, List.length_cons, List.length_nil]
      congr 1; omega
    · intro i k hik
      rcases Nat.lt_trichotomy i acc.length with hlt | heq | hgt
      · refine h i k ?_
        rw [List.getD_eq_getElem?_getD, List.getElem?_append_left hlt, ← List.getD_eq_getElem?_getD] at hik
        exact hik
      · subst heq
        have ho : ops[acc.length]? = some o := by have := hl 0; simpa using this.symm
        simp only [List.getD_eq_getElem?_getD, List.getElem?_append_right (Nat.le_refl _), Nat.sub_self, List.getElem?_cons_zero, Option.getD_some] at hik
        have hik' : ((pU o).foldl (fun m k => m ||| 2 ^ k ||| acc.getD k 0) 0).testBit k = true := by
          simpa [List.getD_eq_getElem?_getD] using hik
        rcases aFZ _ _ _ hik' with h0 | ⟨j, hj, h0⟩
        · simp at h0
        · rcases h0 with rfl | h0
          · exact .base ho hj
          · exact .step (h j k h0) (.base ho hj)
      · rw [List.getD_eq_getElem?_getD, List.getElem?_eq_none (by simp; omega)] at hik
        simp at hik
def quiet : Op → Bool
  | .move _ | .load .. | .binOp .. | .unOp .. | .convert .. | .fieldAddr .. | .indexAddr .. | .field .. | .index .. | .build .. | .makeFunc .. | .makeInterface .. | .extract .. | .lookup .. | .nilCheck _ | .pick .. => true
  | .slice _ _ _ _ none => true
  | .slice _ _ _ (some _) (some _) => true
  | .call ⟨.builtin .len, _, _⟩ | .call ⟨.builtin .cap, _, _⟩ | .call ⟨.builtin .min, _, _⟩ | .call ⟨.builtin .max, _, _⟩ => true
  | _ => false
def aBi (p : Oper → Bool) : List Oper → Nat → Nat
  | [], _ => 0
  | o :: r, i => (match p o with
    | true => 2 ^ i
    | false => 0) ||| aBi p r (i + 1)
def sub (a b : Nat) : Bool := Nat.beq (a &&& b) a
def idx (ops : List Oper) (p : Nat → Oper → Bool) : List Nat := (List.range ops.length).filter fun i => match ops[i]? with
  | some o => p i o
  | none => false
theorem yP {a b : Nat} (h : sub a b = true) {k : Nat} (hk : a.testBit k = true) : b.testBit k = true := by
  have h' := Nat.eq_of_beq_eq_true h
  have : (a &&& b).testBit k = true := by rw [h']; exact hk
  simp only [Nat.testBit_and, Bool.and_eq_true] at this
  exact this.2
theorem aAD {a b : Nat} (h : ∀ k, a.testBit k = true → b.testBit k = true) : sub a b = true := by
  have : a &&& b = a := by
    apply Nat.eq_of_testBit_eq
    intro k
    simp only [Nat.testBit_and]
    cases ha : a.testBit k with
    | false => rfl
    | true => rw [h k ha]; rfl
  simp [sub, this]
theorem wQ {ops : List Oper} {p : Nat → Oper → Bool} {i : Nat} : i ∈ idx ops p ↔ ∃ o, ops[i]? = some o ∧ p i o = true := by
  unfold idx
  rw [List.mem_filter, List.mem_range]
  constructor
  · rintro ⟨hl, h⟩
    split at h
    · rename_i o ho; exact ⟨o, ho, h⟩
    · cases h
  · rintro ⟨o, ho, h⟩
    exact ⟨(List.getElem?_eq_some_iff.1 ho).1, by rw [ho]; exact h⟩
theorem aFS {p : Oper → Bool} : ∀ (l : List Oper) (i k : Nat), (aBi p l i).testBit k = true ↔ ∃ j o, l[j]? = some o ∧ p o = true ∧ k = i + j := by
  intro l
  induction l with
  | nil => intro i k; simp [aBi]
  | cons o r ih =>
    intro i k
    simp only [aBi, Nat.testBit_or, Bool.or_eq_true, ih]
    constructor
    · rintro (h | ⟨j, o', ho', hp, hk⟩)
      · cases hp : p o with
        | true =>
          simp only [hp, Nat.testBit_two_pow, decide_eq_true_eq] at h
          exact ⟨0, o, rfl, hp, by omega⟩
        | false => simp [hp] at h
      · exact ⟨j + 1, o', by simpa using ho', hp, by omega⟩
    · rintro ⟨j, o', ho', hp, hk⟩
      cases j with
      | zero =>
        simp only [List.getElem?_cons_zero, Option.some.injEq] at ho'
        subst ho'
        left
        simp only [hp, Nat.testBit_two_pow, decide_eq_true_eq]; omega
      | succ j => exact .inr ⟨j, o', by simpa using ho', hp, by omega⟩
end
end Go.Proofs.YtodobkbnmjgkdaaGreat.HL
