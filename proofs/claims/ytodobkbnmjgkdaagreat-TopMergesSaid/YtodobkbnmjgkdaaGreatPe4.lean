import Derived.Test.YtodobkbnmjgkdaaGreatPe3
set_option linter.unusedVariables false
set_option linter.unusedSimpArgs false
namespace Go.Proofs.YtodobkbnmjgkdaaGreat.HL
open Go.RowKit (Below)
inductive HC where
  | region (id : Nat) (ops : Array Oper) (dr : Bool)
  | seq (x y : HC)
  | join (live : List Nat) (x y : HC)
  | cond (c : Operand) (x y : HC)
  | block (id : Nat) (x : HC)
  | loop (live : List Nat) (x : HC)
  | exit (id : Nat)
  | ret
  | skip
  | bad (c : Code)
def HC.code : HC → Code
  | .region id ops dr => .region id ops dr
  | .seq x y => .seq x.code y.code
  | .join _ x y => .seq x.code y.code
  | .cond c x y => .cond c x.code y.code
  | .block id x => .block id x.code
  | .loop _ x => .loop x.code
  | .exit id => .exit id
  | .ret => .ret
  | .skip => .skip
  | .bad c => c
abbrev Marks := List (List Bool × List Nat)
def here : Marks → Option (List Nat)
  | [] => none
  | ([], l) :: _ => some l
  | _ :: r => here r
def down (b : Bool) : Marks → Marks
  | [] => []
  | ([], _) :: r => down b r
  | (c :: p, l) :: r => match b == c with
    | true => (p, l) :: down b r
    | false => down b r
def aK : Code → Marks → HC
  | .region id ops dr, _ => .region id ops dr
  | .seq x y, m => match here m with
    | some l => .join l (aK x (down false m)) (aK y (down true m))
    | none => .seq (aK x (down false m)) (aK y (down true m))
  | .cond c x y, m => .cond c (aK x (down false m)) (aK y (down true m))
  | .block id x, m => .block id (aK x (down false m))
  | .loop x, m => .loop ((here m).getD []) (aK x (down false m))
  | .exit id, _ => .exit id
  | .ret, _ => .ret
  | .skip, _ => .skip
  | c, _ => .bad c
theorem cV : ∀ (c : Code) (m : Marks), (aK c m).code = c := by
  intro c
  induction c with
  | seq x y ihx ihy =>
    intro m
    simp only [aK]
    split <;> simp [HC.code, ihx, ihy]
  | cond c x y ihx ihy => intro m; simp [aK, HC.code, ihx, ihy]
  | block id x ih => intro m; simp [aK, HC.code, ih]
  | loop x ih => intro m; simp [aK, HC.code, ih]
  | _ => intros; simp [aK, HC.code]
def aCf : List Nat → Env → (Env → Prop) → Prop
  | [], _, K => K []
  | s :: r, env, K => match env.get s with
    | some v => aCf r env fun e => K ((s, v) :: e)
    | none => False
theorem z7 {N : Nat} {env : Env} {a : Act} (he : pD N env a) : ∀ (l : List Nat) (K : Env → Prop), aCf l env K → ∃ env', K env' ∧ pD N env' a := by
  intro l
  induction l with
  | nil => intro K h; exact ⟨[], h, he.1, he.2.1, fun s v hs => by cases hs⟩
  | cons s r ih =>
    intro K h
    simp only [aCf] at h
    split at h
    · rename_i v hv
      obtain ⟨e, hK, h1, h2, h3⟩ := ih _ h
      refine ⟨_, hK, h1, h2, fun t u ht => ?_⟩
      rw [Env.wY] at ht
      split at ht
      · rename_i e'; subst e'; cases ht; exact he.2.2 _ _ hv
      · exact h3 t u ht
    · exact h.elim
abbrev nC := Exit → Env → Mem → Prop
def aBx (K : Env → Mem → Prop) (Q : nC) : nC := fun e env M => match e with
  | .normal => K env M
  | e => Q e env M
def wN (live : List Nat) (K : Env → Mem → Prop) (Q : nC) : nC := aBx (fun env M => aCf live env fun e => K e M) Q
def aGJ (id : Nat) (Q : nC) : nC := fun e env M => match e with
  | .exit id' => match Nat.beq id' id with
    | true => Q .normal env M
    | false => Q (.exit id') env M
  | e => Q e env M
def yC (live : List Nat) (body : nC → Env → Mem → Prop) (Q : nC) : Nat → Env → Mem → Prop
  | 0 => fun _ _ => False
  | n + 1 => fun env M => body (wN live (yC live body Q n) Q) env M
section
variable (P : Program) (pr : Prim)
def tX : HC → nC → Env → Mem → Prop
  | .region _ ops dr, Q, env, M => match dr with
    | false => aAi P pr ops.toList 0 ops.toList env M fun e m => Q .normal e m
    | true => draw P pr ops.toList env M fun e m => Q .normal e m
  | .seq x y, Q, env, M => tX x (aBx (tX y Q) Q) env M
  | .join live x y, Q, env, M => tX x (wN live (tX y Q) Q) env M
  | .cond c x y, Q, env, M => match ev env c with
    | some v => shB v fun b => bs b (tX x Q env M) (tX y Q env M)
    | none => False
  | .block id x, Q, env, M => tX x (aGJ id Q) env M
  | .loop live x, Q, env, M => aCf live env fun e => ∃ n, yC live (tX x) Q n e M
  | .exit id, Q, env, M => Q (.exit id) env M
  | .ret, Q, env, M => Q .ret env M
  | .skip, Q, env, M => Q .normal env M
  | .bad _, _, _, _ => False
def okH (N : Nat) : HC → Bool
  | .region _ ops dr => aCv N ops.toList && aAu ops.toList && (match dr with
    | true => chk ops.toList
    | false => true)
  | .seq x y => okH N x && okH N y
  | .join _ x y => okH N x && okH N y
  | .cond _ x y => okH N x && okH N y
  | .block _ x => okH N x
  | .loop _ x => okH N x
  | _ => true
def aAc : HC → List Bool → List Nat → nC → HC × nC
  | .seq x y, false :: p, ns, Q => aAc x p ns (aBx (tX P pr y Q) Q)
  | .seq x y, true :: p, ns, Q => aAc y p ns Q
  | .join live x y, false :: p, ns, Q => aAc x p ns (wN live (tX P pr y Q) Q)
  | .join live x y, true :: p, ns, Q => aAc y p ns Q
  | .cond c x y, false :: p, ns, Q => aAc x p ns Q
  | .cond c x y, true :: p, ns, Q => aAc y p ns Q
  | .block id x, false :: p, ns, Q => aAc x p ns (aGJ id Q)
  | .loop live x, false :: p, n :: ns, Q => aAc x p ns (wN live (yC live (tX P pr x) Q n) Q)
  | h, _, _, Q => (h, Q)
variable {P : Program} {w0 : World}
theorem sS {N : Nat} {c : Code} {K : Env → Mem → Prop} {Q : nC} {K' : Act → World → Prop}
    (h : ∀ env M a w, K env M → pD N env a → Rel w0 M w → K' a w) (e : Exit) (a : Act) (w : World) (hl : lift w0 N (aBx K Q) e a w) : Exit.then K' (lift w0 N Q) e a w := by
  obtain ⟨env, M, hq, he, hw⟩ := hl
  cases e <;> first | exact h env M a w hq he hw | exact ⟨env, M, hq, he, hw⟩
theorem aGE (hm : P.follows .mixedOrders = true) {N : Nat} : ∀ (h : HC), okH N h = true → ∀ (Q : nC) (env : Env) (M : Mem) (a : Act) (w : World), tX P (aJ P w0) h Q env M → pD N env a → Rel w0 M w →
    h.code.wp P (lift w0 N Q) a w := by
  intro h
  induction h with
  | region id ops dr =>
    intro hok Q env M a w h he hw
    simp only [okH, Bool.and_eq_true] at hok
    cases dr with
    | false =>
      simp only [tX] at h
      exact wp_region_list (aCL hok.1.1 hok.1.2 ops.toList 0 env M a w (fun _ h => h) h he hw)
    | true =>
      simp only [tX] at h
      exact wp_region_any hm (aEE hok.2 hok.1.2 hok.1.1 h he (hw.drew _))
  | seq x y ihx ihy =>
    intro hok Q env M a w h he hw
    simp only [okH, Bool.and_eq_true] at hok
    simp only [tX] at h
    exact wp_seq (Code.wp_mono (sS (c := y.code) fun env M a w hK he hw => ihy hok.2 Q env M a w hK he hw) (ihx hok.1 _ env M a w h he hw))
  | join live x y ihx ihy =>
    intro hok Q env M a w h he hw
    simp only [okH, Bool.and_eq_true] at hok
    simp only [tX, wN] at h
    refine wp_seq (Code.wp_mono (sS (c := y.code) fun env M a w hK he hw => ?_) (ihx hok.1 _ env M a w h he hw))
    obtain ⟨env', hK', he'⟩ := z7 he _ _ hK
    exact ihy hok.2 Q env' M a w hK' he' hw
  | cond c x y ihx ihy =>
    intro hok Q env M a w h he hw
    simp only [okH, Bool.and_eq_true] at hok
    simp only [tX] at h
    split at h
    · rename_i v hv
      obtain ⟨b, rfl, h⟩ := aAI h
      have hc : a.eval c = .bool b := by
        rw [he.eval (by rw [hv]; rfl)]; simp [m9, hv]
      rcases aEW h with ⟨rfl, h⟩ | ⟨rfl, h⟩
      · exact wp_cond_true hc (ihx hok.1 Q env M a w h he hw)
      · exact wp_cond_false hc (ihy hok.2 Q env M a w h he hw)
    · exact h.elim
  | block id x ih =>
    intro hok Q env M a w h he hw
    simp only [okH] at hok
    simp only [tX] at h
    refine wp_block (Code.wp_mono ?_ (ih hok _ env M a w h he hw))
    rintro e a w ⟨env, M, hq, he, hw⟩
    cases e with
    | exit id' =>
      simp only [aGJ] at hq
      simp only [Exit.inBlock]
      split at hq
      · rename_i hb
        rw [if_pos (Nat.eq_of_beq_eq_true hb)]; exact ⟨env, M, hq, he, hw⟩
      · rename_i hb
        rw [if_neg (fun e => by subst e; rw [Nat.beq_refl] at hb; cases hb)]; exact ⟨env, M, hq, he, hw⟩
    | _ => exact ⟨env, M, hq, he, hw⟩
  | loop live x ih =>
    intro hok Q env M a w h he hw
    simp only [okH] at hok
    simp only [tX] at h
    obtain ⟨env', ⟨n, hn⟩, he'⟩ := z7 he _ _ h
    refine wp_loop_ghost (fun n a w => ∃ env M, yC live (tX P (aJ P w0) x) Q n env M ∧ pD N env a ∧ Rel w0 M w) n ⟨env', M, hn, he', hw⟩ ?_
    rintro n a w ⟨env, M, hI, he, hw⟩
    cases n with
    | zero => exact hI.elim
    | succ n =>
      refine Code.wp_mono ?_ (ih hok _ env M a w hI he hw)
      refine sS (c := .skip) fun env M a w hK he hw => ?_
      obtain ⟨env', hK', he'⟩ := z7 he _ _ hK
      exact ⟨n, by omega, env', M, hK', he', hw⟩
  | exit id => intro hok Q env M a w h he hw; simp only [tX] at h; exact wp_exit ⟨env, M, h, he, hw⟩
  | ret => intro hok Q env M a w h he hw; simp only [tX] at h; exact wp_ret ⟨env, M, h, he, hw⟩
  | skip => intro hok Q env M a w h he hw; simp only [tX] at h; exact wp_skip ⟨env, M, h, he, hw⟩
  | bad c => intro hok Q env M a w h he hw; simp only [tX] at h
end
section
variable (pr : Prim)
def aBX : List ResultVar → Env → Mem → (List Value → Prop) → Prop
  | [], _, _, K => K []
  | .tmp t :: r, env, M, K => match env.get t with
    | some v => aBX r env M fun l => K (v :: l)
    | none => False
  | .cell c t :: r, env, M, K => match env.get c with
    | some v => ob (pr.rdv t v M) fun u => aBX r env M fun l => K (u :: l)
    | none => False
def one : List Value → Value
  | [v] => v
  | l => .tuple l.toArray
def aB3 (rs : List ResultVar) (R : VP) : nC := fun e env M => match e with
  | .normal => aBX pr rs env M fun l => R (one l) M
  | .ret => aBX pr rs env M fun l => R (one l) M
  | _ => False
end
section
variable {P : Program} {w0 : World}
theorem aCc {α : Type} {g : α → Sem Value} {r : α} {rs : List α} {w : World} {v : Value} {l : List Value} (h1 : (g r).run P w = .ok v w) (h2 : (rs.mapM g).run P w = .ok l w) :
    ((r :: rs).mapM g).run P w = .ok (v :: l) w := by
  rw [List.mapM_cons, Sem.run_bind, h1]
  show (rs.mapM g >>= fun l => pure (v :: l)).run P w = _
  rw [Sem.run_bind, h2]; rfl
def aJl (tmps : Array Value) : ResultVar → Sem Value
  | .tmp t => pure (tmps.getD t undef)
  | .cell c t => do loadVar t (← asAddr (tmps.getD c undef))
theorem aFm (fn : Func) (tmps : Array Value) : results fn tmps = (fn.results.mapM (aJl tmps) >>= fun vs => pure (if h : vs.size = 1 then vs[0] else Value.tuple vs)) := by
  unfold results
  refine congrArg (fun g => fn.results.mapM g >>= fun vs => pure (if h : vs.size = 1 then vs[0] else Value.tuple vs)) (funext fun r => ?_)
  cases r <;> rfl
theorem aHz {N : Nat} {env : Env} {M : Mem} {a : Act} {w : World} (he : pD N env a) (hw : Rel w0 M w) : ∀ (rs : List ResultVar) (K : List Value → Prop), aBX (aJ P w0) rs env M K →
    ∃ l, K l ∧ (rs.mapM (aJl a.tmps)).run P w = .ok l w := by
  intro rs
  induction rs with
  | nil => intro K h; exact ⟨[], h, rfl⟩
  | cons r rs ih =>
    intro K h
    cases r with
    | tmp t =>
      simp only [aBX] at h
      obtain ⟨v, hv, h⟩ : ∃ v, env.get t = some v ∧ aBX (aJ P w0) rs env M (fun l => K (v :: l)) := by
        split at h
        · rename_i v hv; exact ⟨v, hv, h⟩
        · exact h.elim
      obtain ⟨l, hK, hl⟩ := ih _ h
      refine ⟨v :: l, hK, aCc ?_ hl⟩
      have hg : a.tmps.getD t undef = v := by
        have := he.2.2 t v hv
        simp [Array.getD_eq_getD_getElem?, this]
      show (Sem.pure (a.tmps.getD t undef)).run P w = _
      rw [hg]; rfl
    | cell c t =>
      simp only [aBX] at h
      obtain ⟨v, hv, h⟩ : ∃ v, env.get c = some v ∧ ob ((aJ P w0).rdv t v M) (fun u => aBX (aJ P w0) rs env M fun l => K (u :: l)) := by
        split at h
        · rename_i v hv; exact ⟨v, hv, h⟩
        · exact h.elim
      obtain ⟨u, hu, h⟩ := aBc h
      obtain ⟨l, hK, hl⟩ := ih _ h
      refine ⟨u :: l, hK, aCc ?_ hl⟩
      have hg : a.tmps.getD c undef = v := by
        have := he.2.2 c v hv
        simp [Array.getD_eq_getD_getElem?, this]
      have hp := rX hw hu
      show (do loadVar t (← asAddr (a.tmps.getD c undef)) : Sem Value).run P w = _
      rw [hg]; exact hp
theorem aGs {N : Nat} {fn : Func} {R : VP} (e : Exit) (a : Act) (w : World) (h : lift w0 N (aB3 (aJ P w0) fn.results.toList R) e a w) :
    bodyPost P fn (fun e w' => ∃ v M', e = .returned v ∧ R v M' ∧ Rel w0 M' w') e a w := by
  obtain ⟨env, M, hq, he, hw⟩ := h
  have go : aBX (aJ P w0) fn.results.toList env M (fun l => R (one l) M) → a.defers = [] ∧ ∃ v, (results fn a.tmps).run P w = .ok v w ∧ ∃ v' M', Ending.returned v = .returned v' ∧ R v' M' ∧ Rel w0 M' w := fun hq => by
    obtain ⟨l, hK, hl⟩ := aHz he hw _ _ hq
    refine ⟨he.2.1, one l, ?_, one l, M, rfl, hK, hw⟩
    rw [aFm, Array.mapM_eq_mapM_toList, Sem.run_bind, Sem.run_map, hl]
    simp only [Result.andThen_ok]
    match l with
    | [] => rfl
    | [v] => rfl
    | v :: u :: r => rfl
  cases e with
  | normal => exact go hq
  | ret => exact go hq
  | _ => exact hq.elim
def yQ : Nat → List Value → Env
  | _, [] => []
  | i, v :: r => (i, v) :: yQ (i + 1) r
theorem aFj : ∀ (l : List Value) (i s : Nat) (v : Value), (yQ i l).get s = some v → i ≤ s ∧ l[s - i]? = some v := by
  intro l
  induction l with
  | nil => intro i s v h; cases h
  | cons u r ih =>
    intro i s v h
    simp only [yQ, Env.wY] at h
    split at h
    · rename_i e; subst e; cases h; exact ⟨Nat.le_refl _, by simp⟩
    · obtain ⟨h1, h2⟩ := ih _ _ _ h
      refine ⟨by omega, ?_⟩
      rw [show s - i = (s - (i + 1)) + 1 from by omega]; simpa using h2
theorem aFB (hm : P.follows .mixedOrders = true) {f : FuncId} {fn : Func} {c : Code} {hc : HC} {args : List Value} {R : VP} {M : Mem}
    (hf : P.funcs[f]? = some fn) (hb : fn.body = some c) (hcall : oO P f = true) (he : hc.code = c) (hok : okH fn.ntmps hc = true) (hsz : args.length ≤ fn.ntmps)
    (h : tX P (aJ P w0) hc (aB3 (aJ P w0) fn.results.toList R) (yQ 0 args) M) : C P w0 f args.toArray R M := by
  refine .inl ⟨hcall, fun w hw => calls_of_wp hf (by rw [hb, ← he]) ?_⟩
  refine Code.wp_mono (aGs (N := fn.ntmps)) (aGE hm hc hok _ _ _ _ w h ?_ hw)
  refine ⟨by simp; omega, rfl, fun s v hs => ?_⟩
  obtain ⟨_, h2⟩ := aFj args 0 s v hs
  have hlt : s < args.length := by
    have := (List.getElem?_eq_some_iff.1 h2).1; omega
  simp only [Nat.sub_zero] at h2
  rw [Array.getElem?_append_left (by simpa using hlt)]
  simpa using h2
end
end Go.Proofs.YtodobkbnmjgkdaaGreat.HL
