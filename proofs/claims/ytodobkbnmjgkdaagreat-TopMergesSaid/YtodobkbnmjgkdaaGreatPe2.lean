import Derived.Test.YtodobkbnmjgkdaaGreatPe1
set_option linter.unusedVariables false
set_option linter.unusedSimpArgs false
namespace Go.Proofs.YtodobkbnmjgkdaaGreat.HL
open Go.RowKit (Below)
def guards (ops : List Oper) (i : Nat) : Bool := ops.any fun o => match o.guard with
  | some (j, _) => Nat.beq j i
  | none => false
def fin (ops : List Oper) (i : Nat) (dst : Option Nat) (env : Env) (v : Value) (K : Env → Prop) : Prop := match guards ops i with
  | true => shB v fun b => bs b (K (env.put dst (.bool true))) (K (env.put dst (.bool false)))
  | false => K (env.put dst v)
theorem xO {ops : List Oper} {i : Nat} {dst : Option Nat} {env : Env} {v : Value} {K : Env → Prop} (h : fin ops i dst env v K) : K (env.put dst v) := by
  unfold fin at h
  split at h
  · obtain ⟨b, rfl, h⟩ := aAI h
    rcases aEW h with ⟨rfl, h⟩ | ⟨rfl, h⟩ <;> exact h
  · exact h
def oM (ops : List Oper) (j : Nat) : Option Nat := match ops[j]? with
  | some o => o.dst
  | none => none
section
variable (P : Program) (pr : Prim)
def zeroOf (e : TypeId) : Option Value := match P.info? e with
  | some i => i.zero
  | none => none
def aEi (ops : List Oper) (i : Nat) (o : Oper) (env : Env) (M : Mem) (K : Env → Mem → Prop) : Prop := match uI env o with
  | false => False
  | true => match o.op with
    | .call ⟨.value x, args, _⟩ => match m9 env x with
      | .func (.func f) first cap => pr.call f ((first.toList ++ (args.toList.map (m9 env) ++ cap.toList)).toArray) (fun v M' => shO P o.type v fun v' => fin ops i o.dst env v' fun env' => K env' M') M
      | _ => False
    | .store t a x => match m9 env a with
      | .pointer (some ad) => pr.st t ad (m9 env x) (fun M' => K (env.put o.dst undef) M') M
      | _ => False
    | .mapUpdate t m k x => pr.mup t (m9 env m) (m9 env k) (m9 env x) (fun M' => K (env.put o.dst undef) M') M
    | .insert t m k x => pr.mup t (m9 env m) (m9 env k) (m9 env x) (fun M' => K (env.put o.dst undef) M') M
    | .entryStore t m k x => pr.mes t (m9 env m) (m9 env k) (m9 env x) (fun M' => K (env.put o.dst undef) M') M
    | .mapEntry t m k => pr.men t (m9 env m) (m9 env k) (fun v n M' => fin ops i o.dst env (.tuple #[v, .int .i64 n]) fun env' => K env' M') M
    | .alloc e => match zeroOf P e with
      | some z => pr.nw z.cells.toList e (fun b M' => shO P o.type (.pointer (some ⟨b, 0, none⟩)) fun v' => fin ops i o.dst env v' fun env' => K env' M') M
      | none => False
    | .box e x => pr.nw (m9 env x).cells.toList e (fun b M' => shO P o.type (.pointer (some ⟨b, 0, none⟩)) fun v' => fin ops i o.dst env v' fun env' => K env' M') M
    | .buildSlice t n parts => pr.bsl t n (parts.toList.map fun p => (p.1, m9 env p.2)) (fun v M' => shO P o.type v fun v' => fin ops i o.dst env v' fun env' => K env' M') M
    | .makeSlice t l c => pr.mks t (m9 env l) (m9 env c) (fun v M' => shO P o.type v fun v' => fin ops i o.dst env v' fun env' => K env' M') M
    | .makeMap t r => pr.mkm t (r.map (m9 env)) (fun v M' => shO P o.type v fun v' => fin ops i o.dst env v' fun env' => K env' M') M
    | .call ⟨.builtin .append, args, tys⟩ => pr.app tys o.type (args.toList.map (m9 env)) (fun v M' => shO P o.type v fun v' => fin ops i o.dst env v' fun env' => K env' M') M
    | .call ⟨.builtin .copy, args, tys⟩ => pr.cpy tys o.type (args.toList.map (m9 env)) (fun v M' => shO P o.type v fun v' => fin ops i o.dst env v' fun env' => K env' M') M
    | .call ⟨.builtin .delete, args, tys⟩ => pr.del tys o.type (args.toList.map (m9 env)) (fun v M' => shO P o.type v fun v' => fin ops i o.dst env v' fun env' => K env' M') M
    | .call ⟨.builtin .clear, args, tys⟩ => pr.clr tys o.type (args.toList.map (m9 env)) (fun v M' => shO P o.type v fun v' => fin ops i o.dst env v' fun env' => K env' M') M
    | _ => aHG P pr M (m9 env) o fun v => shO P o.type v fun v' => fin ops i o.dst env v' fun env' => K env' M
def aEN (ops : List Oper) (i : Nat) (o : Oper) (env : Env) (M : Mem) (K : Env → Mem → Prop) : Prop := match o.guard with
  | none => aEi P pr ops i o env M K
  | some (j, want) => match oM ops j with
    | none => False
    | some t => match env.get t with
      | some (.bool b) => match b == want with
        | true => aEi P pr ops i o env M K
        | false => K (env.put o.dst undef) M
      | some (.tuple _) => K (env.put o.dst undef) M
      | _ => False
def aAi (ops : List Oper) : Nat → List Oper → Env → Mem → (Env → Mem → Prop) → Prop
  | _, [], env, M, K => K env M
  | i, o :: r, env, M, K => aEN P pr ops i o env M fun env' M' => aAi ops (i + 1) r env' M' K
variable {P pr} {w0 : World}
theorem aGp {ρ : Operand → Value} {o : Oper} {x : Operand} {args : Array Operand} {tys : Array TypeId} {f : FuncId} {first cap : Array Value}
    (ho : o.op = .call ⟨.value x, args, tys⟩) (hx : ρ x = .func (.func f) first cap) (hc : oO P f = true) (w : World) :
    (execOp ρ o).run P w = .ok (.enter f ((first.toList ++ (args.toList.map ρ ++ cap.toList)).toArray)) w := by
  obtain ⟨dst, op, type, pos, after, guard⟩ := o
  simp only at ho; subst ho
  unfold oO at hc
  split at hc
  · rename_i fn hf
    simp only [Bool.and_eq_true, Bool.not_eq_true'] at hc
    have e : (first.toList ++ (args.toList.map ρ ++ cap.toList)).toArray = (first ++ args.map ρ) ++ cap := by
      apply Array.toList_inj.1; simp
    have h1 : ¬ fn.name = "runtime.NumGoroutine" := by simpa using hc.1
    have h2 : ¬ fn.body = none := by
      intro hb
      rw [hb] at hc
      simp at hc
    rw [e]
    simp [execOp, resolve, hx, Deferred.ofValue, invoke, callFunc, program, Sem.run, hf, h1, h2]
  · cases hc
theorem aHy {ρ : Operand → Value} {o : Oper} {x : Operand} {args : Array Operand} {tys : Array TypeId} {f : FuncId} {first cap : Array Value}
    (ho : o.op = .call ⟨.value x, args, tys⟩) (hx : ρ x = .func (.func f) first cap) {w w' : World} {v : Value} (hr : (callFunc f ((first.toList ++ (args.toList.map ρ ++ cap.toList)).toArray)).run P w = .ok (.value v) w') :
    (execOp ρ o).run P w = .ok (.value v) w' := by
  obtain ⟨dst, op, type, pos, after, guard⟩ := o
  simp only at ho; subst ho
  have e : (first.toList ++ (args.toList.map ρ ++ cap.toList)).toArray = (first ++ args.map ρ) ++ cap := by
    apply Array.toList_inj.1; simp
  rw [e] at hr
  simp only [execOp, resolve, hx, Deferred.ofValue, invoke]
  exact hr
def aLW (P : Program) (w0 : World) (o : Oper) (ρ : Operand → Value) (M : Mem) (K : VP) : Prop :=
  ∀ (a : Act) (w : World) (next : Act → World → Prop) (Q : Exit → Act → World → Prop), execOp a.eval o = execOp ρ o → Rel w0 M w →
    (∀ v M' w', K v M' → Rel w0 M' w' → next (a.put o.dst v) w') → o.wp P a w next Q
theorem aGR {e : TypeId} {z : Value} {K : VP} {M : Mem} (hz : zeroOf P e = some z) (h : nw w0 z.cells.toList e (fun b M' => K (.pointer (some ⟨b, 0, none⟩)) M') M) :
    act P w0 (Instr.alloc e true (.tuple #[])) K M := by
  unfold zeroOf at hz
  split at hz
  · rename_i i hi
    have : Instr.alloc e true (.tuple #[]) = (do pure (.pointer (some (← newVar e (← zeroValue e))))) := rfl
    rw [this, eJ]
    simp only [zeroValue, typeInfo]
    rw [eJ, eJ]
    simp only [program, act, hi]
    show act P w0 (match i.zero with | some v => pure v | none => _) _ M
    rw [hz]
    show act P w0 (newVar e z >>= _) _ M
    rw [eJ]
    exact ⟨rfl, h⟩
  · cases hz
theorem aJE {e : TypeId} {v : Value} {K : VP} {M : Mem} (h : nw w0 v.cells.toList e (fun b M' => K (.pointer (some ⟨b, 0, none⟩)) M') M) :
    act P w0 (Instr.box e v) K M := ⟨rfl, h⟩
theorem aCx {ops : List Oper} {i : Nat} {o : Oper} {env : Env} {M : Mem} {K : Env → Mem → Prop} (h : aEi P (aJ P w0) ops i o env M K) :
    uI env o = true ∧ aLW P w0 o (m9 env) M fun v M' => K (env.put o.dst v) M' := by
  unfold aEi at h
  split at h
  · exact h.elim
  · rename_i hk
    refine ⟨hk, ?_⟩
    intro a w next Q he hw hnext
    unfold Oper.wp
    rw [he]
    have aAe : ∀ (s : Sem Value), vH (m9 env) o = some s → act P w0 s (fun v M' => shO P o.type v fun v' => fin ops i o.dst env v' fun env' => K env' M') M →
        Oper.upon P o a next Q ((execOp (m9 env) o).run P w) := fun s hs h => by
      obtain ⟨v, w', hr, M', hq, hrel⟩ := aAl hw h
      rw [aCG hs, gZ hr]
      exact hnext v M' w' (xO (zW hq)) hrel
    have mute : ∀ (s : Sem Unit), aEm (m9 env) o = some s → act P w0 s (fun _ M' => K (env.put o.dst undef) M') M →
        Oper.upon P o a next Q ((execOp (m9 env) o).run P w) := fun s hs h => by
      obtain ⟨u, w', hr, M', hq, hrel⟩ := aAl hw h
      rw [aHd hs, aHx hr]
      exact hnext undef M' w' hq hrel
    split at h
    · rename_i x args tys ho
      split at h
      · rename_i f first cap hx
        rcases h with h | h
        · rw [aGp ho hx h.1 w]
          refine (h.2 w hw).mono ?_
          rintro e w' ⟨v, M', rfl, hR, hrel⟩
          exact hnext v M' w' (xO (zW hR)) hrel
        · obtain ⟨v, w', M', hr, hR, hrel⟩ := h w hw
          rw [aHy ho hx hr]
          exact hnext v M' w' (xO (zW hR)) hrel
      · exact h.elim
    · rename_i t p x ho
      split at h
      · rename_i ad had
        refine mute (Instr.storeAt t (m9 env p) (m9 env x)) (by simp only [aEm, ho]) ?_
        rw [had]; exact h
      · exact h.elim
    · rename_i t m k x ho
      exact mute (Instr.mapUpdate t (m9 env m) (m9 env k) (m9 env x)) (by simp only [aEm, ho]) h
    · rename_i t m k x ho
      exact mute (Instr.mapUpdate t (m9 env m) (m9 env k) (m9 env x)) (by simp only [aEm, ho]) h
    · rename_i t m k x ho
      exact mute (Instr.entryStore t (m9 env m) (m9 env k) (m9 env x)) (by simp only [aEm, ho]) h
    · rename_i t m k ho
      have hs : vH (m9 env) o = some (Instr.mapEntry t (m9 env m) (m9 env k)) := by simp only [vH, ho]
      obtain ⟨r, w', hr, M', ⟨v, n, rfl, hq⟩, hrel⟩ := aAl hw h
      rw [aCG hs, gZ hr]
      exact hnext _ M' w' (xO hq) hrel
    · rename_i e ho
      split at h
      · rename_i z hz
        exact aAe (Instr.alloc e true (.tuple #[])) (by simp only [vH, ho]) (aGR hz h)
      · exact h.elim
    · rename_i e x ho
      exact aAe (Instr.box e (m9 env x)) (by simp only [vH, ho]) (aJE h)
    · rename_i t n parts ho
      have hs : vH (m9 env) o = some (Instr.buildSlice t n (parts.toList.map fun p : Nat × Operand => (p.1, m9 env p.2)).toArray) := by simp only [vH, ho]
      exact aAe _ hs h
    · rename_i t l c ho
      exact aAe (Instr.makeSlice t (m9 env l) (m9 env c)) (by simp only [vH, ho]) h
    · rename_i t r ho
      exact aAe (Instr.makeMap t (r.map (m9 env))) (by simp only [vH, ho]) h
    · rename_i args tys ho
      exact aAe (Builtin.append_ tys o.type (args.toList.map (m9 env)).toArray) (by simp only [vH, ho]) h
    · rename_i args tys ho
      exact aAe (Builtin.copy_ tys o.type (args.toList.map (m9 env)).toArray) (by simp only [vH, ho]) h
    · rename_i args tys ho
      exact aAe (Builtin.delete_ tys o.type (args.toList.map (m9 env)).toArray) (by simp only [vH, ho]) h
    · rename_i args tys ho
      exact aAe (Builtin.clear_ tys o.type (args.toList.map (m9 env)).toArray) (by simp only [vH, ho]) h
    · obtain ⟨v, hK, _, hv⟩ := aAz h
      rw [hv w hw]
      exact hnext v M w (xO (zW hK)) hw
theorem aEk {N : Nat} {env : Env} {a : Act} (h : pD N env a) {ops : Array Oper} {j t : Nat} {b : Bool} (hs : oM ops.toList j = some t) (hg : env.get t = some (.bool b)) :
    yielded ops a.tmps j = some b := by
  unfold oM at hs
  unfold yielded
  split at hs
  · rename_i o ho
    have ho' : ops[j]? = some o := by simpa using ho
    rw [ho']
    simp only [Option.bind_some, hs, h.2.2 t _ hg]
  · cases hs
theorem aB4 {N : Nat} {env : Env} {a : Act} (h : pD N env a) {ops : Array Oper} {j t : Nat} {c : Array Value} (hs : oM ops.toList j = some t) (hg : env.get t = some (.tuple c)) :
    yielded ops a.tmps j = none := by
  unfold oM at hs
  unfold yielded
  split at hs
  · rename_i o ho
    have ho' : ops[j]? = some o := by simpa using ho
    rw [ho']
    simp only [Option.bind_some, hs, h.2.2 t _ hg]
  · cases hs
def aCv (N : Nat) (ops : List Oper) : Bool := ops.all fun o => match o.dst with
  | some d => Nat.blt d N
  | none => true
def aAu (ops : List Oper) : Bool := ops.all fun o => match o.op with
  | .select .. => false
  | _ => true
theorem uW {N : Nat} {ops : List Oper} (h : aCv N ops = true) {o : Oper} (ho : o ∈ ops) : ∀ s, o.dst = some s → s < N := by
  intro s hs
  have := List.all_eq_true.1 h o ho
  simp only [hs] at this
  exact Nat.le_of_ble_eq_true this
theorem rW {ops : List Oper} (h : aAu ops = true) {o : Oper} (ho : o ∈ ops) : ∀ cs b, o.op ≠ .select cs b := by
  intro cs b e
  have := List.all_eq_true.1 h o ho
  simp [e] at this
def lift (w0 : World) (N : Nat) (Q : Exit → Env → Mem → Prop) : Exit → Act → World → Prop := fun e a w => ∃ env M, Q e env M ∧ pD N env a ∧ Rel w0 M w
theorem aCL {N : Nat} {ops : Array Oper} {Q : Exit → Env → Mem → Prop} (hd : aCv N ops.toList = true) (hn : aAu ops.toList = true) :
    ∀ (l : List Oper) (i : Nat) (env : Env) (M : Mem) (a : Act) (w : World), (∀ o ∈ l, o ∈ ops.toList) → aAi P (aJ P w0) ops.toList i l env M (fun env' M' => Q .normal env' M') →
      pD N env a → Rel w0 M w → wpList P ops (lift w0 N Q) l a w := by
  intro l
  induction l with
  | nil => intro i env M a w _ h he hw; exact ⟨env, M, h, he, hw⟩
  | cons o r ih =>
    intro i env M a w hm h he hw
    have hr : ∀ o ∈ r, o ∈ ops.toList := fun o' ho' => hm o' (List.mem_cons_of_mem _ ho')
    have ho := hm o List.mem_cons_self
    simp only [aAi, aEN] at h
    unfold wpList
    have go : aEi P (aJ P w0) ops.toList i o env M (fun env' M' => aAi P (aJ P w0) ops.toList (i + 1) r env' M' fun env' M' => Q .normal env' M') →
        o.wp P a w (wpList P ops (lift w0 N Q) r) (lift w0 N Q) := fun hdo => by
      obtain ⟨hk, h3⟩ := aCx hdo
      exact h3 a w _ _ (he.exec hk (rW hn ho)) hw fun v M' w' hK hrel => ih (i + 1) _ M' _ w' hr hK (he.put _ _ (uW hd ho)) hrel
    cases hg : o.guard with
    | none =>
      simp only [hg] at h
      rw [if_pos (by simp [Region.wanted, hg])]
      exact .inl (go h)
    | some jw =>
      obtain ⟨j, want⟩ := jw
      simp only [hg] at h
      split at h
      · exact h.elim
      · rename_i t hs
        split at h
        · rename_i b hb
          have hy := aEk he hs hb
          split at h
          · rename_i hbw
            rw [if_pos (by simp only [Region.wanted, hg, hy]; have := eq_of_beq hbw; subst this; simp)]
            exact .inl (go h)
          · rename_i hbw
            rw [if_neg (by simp only [Region.wanted, hg, hy]; cases b <;> cases want <;> simp_all)]
            exact ih (i + 1) _ M _ w hr h (he.put _ _ (uW hd ho)) hw
        · rename_i c hb
          have hy := aB4 he hs hb
          rw [if_neg (by simp only [Region.wanted, hg, hy]; simp)]
          exact ih (i + 1) _ M _ w hr h (he.put _ _ (uW hd ho)) hw
        · exact h.elim
def qB (o : Oper) : List Nat := o.after.toList.filterMap fun e => match Region.binds .any e with
  | true => some e.on
  | false => none
def ahead : List Oper → List Nat → List Nat
  | [], acc => acc
  | o :: r, acc => ahead r (acc ++ [(qB o).foldl (fun m k => m ||| 2 ^ k ||| acc.getD k 0) 0])
inductive tM (ops : Array Oper) : Nat → Nat → Prop
  | base {i k : Nat} {o : Oper} (ho : ops[i]? = some o) (hk : k ∈ qB o) : tM ops k i
  | step {i j k : Nat} (h : tM ops k j) (h' : tM ops j i) : tM ops k i
theorem aHf {acc : List Nat} : ∀ (l : List Nat) (m i : Nat), (l.foldl (fun m k => m ||| 2 ^ k ||| acc.getD k 0) m).testBit i = true →
    m.testBit i = true ∨ ∃ k ∈ l, i = k ∨ (acc.getD k 0).testBit i = true := by
  intro l
  induction l with
  | nil => intro m i h; exact .inl h
  | cons k r ih =>
    intro m i h
    simp only [List.foldl_cons] at h
    rcases ih _ _ h with h | ⟨k', hk', h⟩
    · simp only [Nat.testBit_or, Bool.or_eq_true, Nat.testBit_two_pow, decide_eq_true_eq] at h
      rcases h with (h | h) | h
      · exact .inl h
      · exact .inr ⟨k, List.mem_cons_self, .inl h.symm⟩
      · exact .inr ⟨k, List.mem_cons_self, .inr h⟩
    · exact .inr ⟨k', List.mem_cons_of_mem _ hk', h⟩
theorem aE0 {ops : Array Oper} : ∀ (l : List Oper) (acc : List Nat), (∀ j, l[j]? = ops[acc.length + j]?) →
    (∀ i k, (acc.getD i 0).testBit k = true → tM ops k i) → ∀ i k, ((ahead l acc).getD i 0).testBit k = true → tM ops k i := by
  intro l
  induction l with
  | nil => intro acc _ h; exact h
  | cons o r ih =>
    intro acc hl h
    simp only [ahead]
    refine ih _ ?_ ?_
    · intro j
      have := hl (j + 1)
      simp only [List.getElem?_cons_succ] at this
      rw [this]
      simp only [List.length_append, List.length_cons, List.length_nil]
      congr 1; omega
    · intro i k hik
      rcases Nat.lt_trichotomy i acc.length with hlt | heq | hgt
      · refine h i k ?_
        rw [List.getD_eq_getElem?_getD, List.getElem?_append_left hlt, ← List.getD_eq_getElem?_getD] at hik
        exact hik
      · subst heq
        have ho : ops[acc.length]? = some o := by have := hl 0; simpa using this.symm
        simp only [List.getD_eq_getElem?_getD, List.getElem?_append_right (Nat.le_refl _), Nat.sub_self, List.getElem?_cons_zero, Option.getD_some] at hik
        have hik' : ((qB o).foldl (fun m k => m ||| 2 ^ k ||| acc.getD k 0) 0).testBit k = true := by
          simpa [List.getD_eq_getElem?_getD] using hik
        rcases aHf _ _ _ hik' with h0 | ⟨j, hj, h0⟩
        · simp at h0
        · rcases h0 with rfl | h0
          · exact .base ho hj
          · exact .step (h j k h0) (.base ho hj)
      · rw [List.getD_eq_getElem?_getD, List.getElem?_eq_none (by simp; omega)] at hik
        simp at hik
def quiet : Op → Bool
  | .move _ | .load .. | .binOp .. | .unOp .. | .convert .. | .fieldAddr .. | .indexAddr .. | .field .. | .index .. | .build .. | .makeFunc .. | .makeInterface .. | .extract .. | .lookup .. | .nilCheck _ | .pick .. => true
  | .slice _ _ _ _ none => true
  | .slice _ _ _ (some _) (some _) => true
  | .call ⟨.builtin .len, _, _⟩ | .call ⟨.builtin .cap, _, _⟩ | .call ⟨.builtin .min, _, _⟩ | .call ⟨.builtin .max, _, _⟩ => true
  | _ => false
def aBr (p : Oper → Bool) : List Oper → Nat → Nat
  | [], _ => 0
  | o :: r, i => (match p o with
    | true => 2 ^ i
    | false => 0) ||| aBr p r (i + 1)
def sub (a b : Nat) : Bool := Nat.beq (a &&& b) a
def idx (ops : List Oper) (p : Nat → Oper → Bool) : List Nat := (List.range ops.length).filter fun i => match ops[i]? with
  | some o => p i o
  | none => false
theorem zE {a b : Nat} (h : sub a b = true) {k : Nat} (hk : a.testBit k = true) : b.testBit k = true := by
  have h' := Nat.eq_of_beq_eq_true h
  have : (a &&& b).testBit k = true := by rw [h']; exact hk
  simp only [Nat.testBit_and, Bool.and_eq_true] at this
  exact this.2
theorem aBg {a b : Nat} (h : ∀ k, a.testBit k = true → b.testBit k = true) : sub a b = true := by
  have : a &&& b = a := by
    apply Nat.eq_of_testBit_eq
    intro k
    simp only [Nat.testBit_and]
    cases ha : a.testBit k with
    | false => rfl
    | true => rw [h k ha]; rfl
  simp [sub, this]
theorem xX {ops : List Oper} {p : Nat → Oper → Bool} {i : Nat} : i ∈ idx ops p ↔ ∃ o, ops[i]? = some o ∧ p i o = true := by
  unfold idx
  rw [List.mem_filter, List.mem_range]
  constructor
  · rintro ⟨hl, h⟩
    split at h
    · rename_i o ho; exact ⟨o, ho, h⟩
    · cases h
  · rintro ⟨o, ho, h⟩
    exact ⟨(List.getElem?_eq_some_iff.1 ho).1, by rw [ho]; exact h⟩
theorem aG1 {p : Oper → Bool} : ∀ (l : List Oper) (i k : Nat), (aBr p l i).testBit k = true ↔ ∃ j o, l[j]? = some o ∧ p o = true ∧ k = i + j := by
  intro l
  induction l with
  | nil => intro i k; simp [aBr]
  | cons o r ih =>
    intro i k
    simp only [aBr, Nat.testBit_or, Bool.or_eq_true, ih]
    constructor
    · rintro (h | ⟨j, o', ho', hp, hk⟩)
      · cases hp : p o with
        | true =>
          simp only [hp, Nat.testBit_two_pow, decide_eq_true_eq] at h
          exact ⟨0, o, rfl, hp, by omega⟩
        | false => simp [hp] at h
      · exact ⟨j + 1, o', by simpa using ho', hp, by omega⟩
    · rintro ⟨j, o', ho', hp, hk⟩
      cases j with
      | zero =>
        simp only [List.getElem?_cons_zero, Option.some.injEq] at ho'
        subst ho'
        left
        simp only [hp, Nat.testBit_two_pow, decide_eq_true_eq]; omega
      | succ j => exact .inr ⟨j, o', by simpa using ho', hp, by omega⟩
end
end Go.Proofs.YtodobkbnmjgkdaaGreat.HL
