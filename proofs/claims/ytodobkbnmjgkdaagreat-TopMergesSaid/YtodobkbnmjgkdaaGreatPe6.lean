import Derived.Test.YtodobkbnmjgkdaaGreatPe5
set_option linter.unusedVariables false
set_option linter.unusedSimpArgs false
namespace Go.Proofs.YtodobkbnmjgkdaaGreat.HL
open Go.RowKit (Below)
abbrev eA := List Bool → List Nat → Env → Mem → Prop
section
variable (P : Program) (pr : Prim)
def wpX (aB : eA) : HC → List Bool → List Nat → nC → Env → Mem → Prop
  | .region _ ops dr, _, _, Q, env, M => match dr with
    | false => aAi P pr ops.toList 0 ops.toList env M fun e m => Q .normal e m
    | true => draw P pr ops.toList env M fun e m => Q .normal e m
  | .seq x y, p, ns, Q, env, M => wpX aB x (false :: p) ns (aBx (wpX aB y (true :: p) ns Q) Q) env M
  | .join live x y, p, ns, Q, env, M => wpX aB x (false :: p) ns (wN live (aB (true :: p) ns) Q) env M
  | .cond c x y, p, ns, Q, env, M => match ev env c with
    | some v => shB v fun b => bs b (wpX aB x (false :: p) ns Q env M) (wpX aB y (true :: p) ns Q env M)
    | none => False
  | .block id x, p, ns, Q, env, M => wpX aB x (false :: p) ns (aGJ id Q) env M
  | .loop live x, p, ns, Q, env, M => aCf live env fun e => ∃ k, aB (false :: p) (k :: ns) e M
  | .exit id, _, _, Q, env, M => Q (.exit id) env M
  | .ret, _, _, Q, env, M => Q .ret env M
  | .skip, _, _, Q, env, M => Q .normal env M
  | .bad _, _, _, _, _, _ => False
def walk (aB : eA) : HC → List Bool → List Bool → List Nat → List Nat → nC → HC × nC × List Nat
  | .seq x y, false :: q, p, ms, ns, Q => walk aB x q (false :: p) ms ns (aBx (wpX P pr aB y (true :: p) ns Q) Q)
  | .seq x y, true :: q, p, ms, ns, Q => walk aB y q (true :: p) ms ns Q
  | .join live x y, false :: q, p, ms, ns, Q => walk aB x q (false :: p) ms ns (wN live (aB (true :: p) ns) Q)
  | .join live x y, true :: q, p, ms, ns, Q => walk aB y q (true :: p) ms ns Q
  | .cond c x y, false :: q, p, ms, ns, Q => walk aB x q (false :: p) ms ns Q
  | .cond c x y, true :: q, p, ms, ns, Q => walk aB y q (true :: p) ms ns Q
  | .block id x, false :: q, p, ms, ns, Q => walk aB x q (false :: p) ms ns (aGJ id Q)
  | .loop live x, false :: q, p, m :: ms, ns, Q => walk aB x q (false :: p) ms (m :: ns) (wN live (aB (false :: p) (m :: ns)) Q)
  | h, _, _, ms, _, Q => (h, Q, ms)
def aAy (aB : eA) (h : HC) (Q : nC) : eA
  | [], _, _, _ => False
  | _ :: p, ns, e, M => match walk P pr aB h p.reverse [] ns.reverse [] Q with
    | (.join _ _ y, Q', _) => wpX P pr aB y (true :: p) ns Q' e M
    | (.loop live x, Q', _) => match ns with
      | (k + 1) :: ns' => wpX P pr aB x (false :: p) (k :: ns') (wN live (aB (false :: p) (k :: ns')) Q') e M
      | _ => False
    | _ => False
def uX (h : HC) (Q : nC) : eA
  | [], _, _, _ => False
  | _ :: p, ns, e, M => match aAc P pr h p.reverse ns.reverse Q with
    | (.join _ _ y, Q') => tX P pr y Q' e M
    | (.loop live x, Q') => match ns with
      | k :: _ => yC live (tX P pr x) Q' k e M
      | [] => False
    | _ => False
end
section
variable (P : Program) (pr : Prim)
inductive At (h0 : HC) (Q0 : nC) : List Bool → List Nat → HC → nC → Prop
  | top : At h0 Q0 [] [] h0 Q0
  | aLo {p ns x y Q} : At h0 Q0 p ns (.seq x y) Q → At h0 Q0 (false :: p) ns x (aBx (tX P pr y Q) Q)
  | aLa {p ns x y Q} : At h0 Q0 p ns (.seq x y) Q → At h0 Q0 (true :: p) ns y Q
  | aHU {p ns live x y Q} : At h0 Q0 p ns (.join live x y) Q → At h0 Q0 (false :: p) ns x (wN live (tX P pr y Q) Q)
  | aKH {p ns live x y Q} : At h0 Q0 p ns (.join live x y) Q → At h0 Q0 (true :: p) ns y Q
  | aKV {p ns c x y Q} : At h0 Q0 p ns (.cond c x y) Q → At h0 Q0 (false :: p) ns x Q
  | aKG {p ns c x y Q} : At h0 Q0 p ns (.cond c x y) Q → At h0 Q0 (true :: p) ns y Q
  | block {p ns id x Q} : At h0 Q0 p ns (.block id x) Q → At h0 Q0 (false :: p) ns x (aGJ id Q)
  | loop {p ns live x Q k} : At h0 Q0 p ns (.loop live x) Q → At h0 Q0 (false :: p) (k :: ns) x (wN live (yC live (tX P pr x) Q k) Q)
def reach : HC → List Bool → List Nat → Bool
  | .seq x _, false :: q, ms => reach x q ms
  | .seq _ y, true :: q, ms => reach y q ms
  | .join _ x _, false :: q, ms => reach x q ms
  | .join _ _ y, true :: q, ms => reach y q ms
  | .cond _ x _, false :: q, ms => reach x q ms
  | .cond _ _ y, true :: q, ms => reach y q ms
  | .block _ x, false :: q, ms => reach x q ms
  | .loop _ x, false :: q, _ :: ms => reach x q ms
  | .join .., [], [] => true
  | .loop .., [], [_] => true
  | _, _, _ => false
end
section
variable {P : Program} {pr : Prim}
theorem At.ctx {h0 : HC} {Q0 : nC} {p : List Bool} {ns : List Nat} {h : HC} {Q : nC} (a : At P pr h0 Q0 p ns h Q) :
    ∀ q ms, aAc P pr h0 (p.reverse ++ q) (ns.reverse ++ ms) Q0 = aAc P pr h q ms Q := by
  induction a with
  | top => intro q ms; rfl
  | _ => rename_i ih; intro q ms; simp only [List.reverse_cons, List.append_assoc, List.cons_append, List.nil_append, ih, aAc]
theorem vC (h : HC) (ms : List Nat) (Q : nC) : aAc P pr h [] ms Q = (h, Q) := by cases h <;> cases ms <;> rfl
theorem zV {h0 : HC} {Q0 : nC} : ∀ (h : HC) (p : List Bool) (ns : List Nat) (Q : nC), At P pr h0 Q0 p ns h Q → wpX P pr (uX P pr h0 Q0) h p ns Q = tX P pr h Q := by
  intro h
  induction h with
  | region id ops dr => intros; rfl
  | seq x y ihx ihy =>
    intro p ns Q a
    funext env M
    simp only [wpX, tX]
    rw [ihy _ _ _ a.aLa, ihx _ _ _ a.aLo]
  | join live x y ihx ihy =>
    intro p ns Q a
    funext env M
    have e : uX P pr h0 Q0 (true :: p) ns = tX P pr y Q := by
      funext e M
      have := a.ctx [] []
      simp only [List.append_nil, vC] at this
      simp only [uX, this]
    simp only [wpX, tX]
    rw [e, ihx _ _ _ a.aHU]
  | cond c x y ihx ihy =>
    intro p ns Q a
    funext env M
    simp only [wpX, tX]
    rw [ihx _ _ _ a.aKV, ihy _ _ _ a.aKG]
    cases ev env c <;> rfl
  | block id x ih =>
    intro p ns Q a
    funext env M
    simp only [wpX, tX]
    rw [ih _ _ _ a.block]
  | loop live x ih =>
    intro p ns Q a
    funext env M
    simp only [wpX, tX]
    refine congrArg _ (funext fun e => propext (exists_congr fun k => ?_))
    have := a.ctx [] [k]
    simp only [List.append_nil, vC] at this
    simp only [uX, List.reverse_cons, this]
  | _ => intros; rfl
theorem At.walk {h0 : HC} {Q0 : nC} {p : List Bool} {ns : List Nat} {h : HC} {Q : nC} (a : At P pr h0 Q0 p ns h Q) :
    ∀ q ms, walk P pr (uX P pr h0 Q0) h0 (p.reverse ++ q) [] (ns.reverse ++ ms) [] Q0 = HL.walk P pr (uX P pr h0 Q0) h q p ms ns Q := by
  induction a with
  | top => intro q ms; rfl
  | aLo a ih => intro q ms; simp only [List.reverse_cons, List.append_assoc, List.cons_append, List.nil_append, ih, HL.walk, zV _ _ _ _ a.aLa]
  | aHU a ih =>
    intro q ms
    rename_i p ns live x y Q
    have e : uX P pr h0 Q0 (true :: p) ns = tX P pr y Q := by
      funext e M
      have := a.ctx [] []
      simp only [List.append_nil, vC] at this
      simp only [uX, this]
    simp only [List.reverse_cons, List.append_assoc, List.cons_append, List.nil_append, ih, HL.walk, e]
  | loop a ih =>
    intro q ms
    rename_i p ns live x Q k
    have e : uX P pr h0 Q0 (false :: p) (k :: ns) = yC live (tX P pr x) Q k := by
      funext e M
      have := a.ctx [] [k]
      simp only [List.append_nil, vC] at this
      simp only [uX, List.reverse_cons, this]
    simp only [List.reverse_cons, List.append_assoc, List.cons_append, List.nil_append, ih, HL.walk, e]
  | _ => rename_i ih; intro q ms; simp only [List.reverse_cons, List.append_assoc, List.cons_append, List.nil_append, ih, HL.walk]
theorem aDL (aB : eA) (h : HC) (p : List Bool) (ms ns : List Nat) (Q : nC) : walk P pr aB h [] p ms ns Q = (h, Q, ms) := by cases h <;> cases ms <;> rfl
theorem At.reach {h0 : HC} {Q0 : nC} : ∀ (q : List Bool) {p : List Bool} {ns ms : List Nat} {h : HC} {Q : nC}, At P pr h0 Q0 p ns h Q → reach h q ms = true →
    (∃ live x y Q', At P pr h0 Q0 (q.reverse ++ p) (ms.reverse ++ ns) (.join live x y) Q') ∨
    (∃ live x Q' k ms', ms.reverse = k :: ms' ∧ At P pr h0 Q0 (q.reverse ++ p) (ms' ++ ns) (.loop live x) Q') := by
  intro q
  induction q with
  | nil =>
    intro p ns ms h Q a hr
    cases h <;> cases ms <;> (try (simp [HL.reach] at hr; done))
    · exact .inl ⟨_, _, _, _, a⟩
    · rename_i live x k ms
      cases ms with
      | nil => exact .inr ⟨_, _, _, k, [], rfl, a⟩
      | cons _ _ => simp [HL.reach] at hr
  | cons b q ih =>
    intro p ns ms h Q a hr
    cases h with
    | seq x y => cases b <;> simp only [HL.reach] at hr <;> simpa using ih (by first | exact a.aLo | exact a.aLa) hr
    | join live x y => cases b <;> simp only [HL.reach] at hr <;> simpa using ih (by first | exact a.aHU | exact a.aKH) hr
    | cond c x y => cases b <;> simp only [HL.reach] at hr <;> simpa using ih (by first | exact a.aKV | exact a.aKG) hr
    | block id x => cases b <;> simp only [HL.reach] at hr <;> first | cases hr | simpa using ih a.block hr
    | loop live x =>
      cases b <;> cases ms <;> simp only [HL.reach] at hr <;> try (cases hr; done)
      rename_i k ms
      rcases ih (a.loop (k := k)) hr with h | ⟨live, x, Q', k', ms', e, h⟩
      · left; simpa using h
      · refine .inr ⟨live, x, Q', k', ms' ++ [k], by simp [e], ?_⟩
        simpa using h
    | _ => simp [HL.reach] at hr
theorem aAS {h0 : HC} {Q0 : nC} {b : Bool} {p : List Bool} {ns : List Nat} (hr : reach h0 p.reverse ns.reverse = true) (e : Env) (M : Mem) :
    uX P pr h0 Q0 (b :: p) ns e M = aAy P pr (uX P pr h0 Q0) h0 Q0 (b :: p) ns e M := by
  rcases At.reach p.reverse (At.top (P := P) (pr := pr) (h0 := h0) (Q0 := Q0)) hr with ⟨live, x, y, Q', a⟩ | ⟨live, x, Q', k, ns', hk, a⟩
  · simp only [List.reverse_reverse, List.append_nil] at a
    have h1 := a.ctx [] []
    have h2 := a.walk [] []
    simp only [List.append_nil, vC] at h1
    simp only [List.append_nil, aDL] at h2
    simp only [aAy, h2, zV _ _ _ _ a.aKH]
    simp only [uX, h1]
  · simp only [List.reverse_reverse, List.append_nil] at a hk
    subst hk
    have h1 := a.ctx [] [k]
    have h2 := a.walk [] [k]
    simp only [List.append_nil, vC, ← List.reverse_cons] at h1
    simp only [List.append_nil, aDL, ← List.reverse_cons] at h2
    cases k with
    | zero =>
      simp only [aAy, h2]
      simp only [uX, h1, yC]
    | succ k =>
      have a' := a.loop (k := k)
      have e : uX P pr h0 Q0 (false :: p) (k :: ns') = yC live (tX P pr x) Q' k := by
        funext e M
        have := a.ctx [] [k]
        simp only [List.append_nil, vC] at this
        simp only [uX, List.reverse_cons, this]
      simp only [aAy, h2]
      rw [e, zV _ _ _ _ a']
      simp only [uX, h1, yC]
theorem aFT {h0 : HC} {Q0 : nC} {e : Env} {M : Mem} : tX P pr h0 Q0 e M = wpX P pr (uX P pr h0 Q0) h0 [] [] Q0 e M := by
  rw [zV _ _ _ _ (At.top)]
end
end Go.Proofs.YtodobkbnmjgkdaaGreat.HL
