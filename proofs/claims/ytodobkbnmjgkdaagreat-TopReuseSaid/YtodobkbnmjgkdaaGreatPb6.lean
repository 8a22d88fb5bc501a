import Derived.Test.YtodobkbnmjgkdaaGreatPb5
set_option linter.unusedVariables false
set_option linter.unusedSimpArgs false
namespace Go.Proofs.YtodobkbnmjgkdaaGreat.HL
open Go.RowKit (Below)
abbrev fE := List Bool → List Nat → Env → Mem → Prop
section
variable (P : Program) (pr : Prim)
def wpX (aB : fE) : HC → List Bool → List Nat → mU → Env → Mem → Prop
  | .region _ ops dr, _, _, Q, env, M => match dr with
    | false => y9 P pr ops.toList 0 ops.toList env M fun e m => Q .normal e m
    | true => draw P pr ops.toList env M fun e m => Q .normal e m
  | .seq x y, p, ns, Q, env, M => wpX aB x (false :: p) ns (aAP (wpX aB y (true :: p) ns Q) Q) env M
  | .join live x y, p, ns, Q, env, M => wpX aB x (false :: p) ns (vO live (aB (true :: p) ns) Q) env M
  | .cond c x y, p, ns, Q, env, M => match ev env c with
    | some v => shB v fun b => bs b (wpX aB x (false :: p) ns Q env M) (wpX aB y (true :: p) ns Q env M)
    | none => False
  | .block id x, p, ns, Q, env, M => wpX aB x (false :: p) ns (aGi id Q) env M
  | .loop live x, p, ns, Q, env, M => aBC live env fun e => ∃ k, aB (false :: p) (k :: ns) e M
  | .exit id, _, _, Q, env, M => Q (.exit id) env M
  | .ret, _, _, Q, env, M => Q .ret env M
  | .skip, _, _, Q, env, M => Q .normal env M
  | .bad _, _, _, _, _, _ => False
def walk (aB : fE) : HC → List Bool → List Bool → List Nat → List Nat → mU → HC × mU × List Nat
  | .seq x y, false :: q, p, ms, ns, Q => walk aB x q (false :: p) ms ns (aAP (wpX P pr aB y (true :: p) ns Q) Q)
  | .seq x y, true :: q, p, ms, ns, Q => walk aB y q (true :: p) ms ns Q
  | .join live x y, false :: q, p, ms, ns, Q => walk aB x q (false :: p) ms ns (vO live (aB (true :: p) ns) Q)
  | .join live x y, true :: q, p, ms, ns, Q => walk aB y q (true :: p) ms ns Q
  | .cond c x y, false :: q, p, ms, ns, Q => walk aB x q (false :: p) ms ns Q
  | .cond c x y, true :: q, p, ms, ns, Q => walk aB y q (true :: p) ms ns Q
  | .block id x, false :: q, p, ms, ns, Q => walk aB x q (false :: p) ms ns (aGi id Q)
  | .loop live x, false :: q, p, m :: ms, ns, Q => walk aB x q (false :: p) ms (m :: ns) (vO live (aB (false :: p) (m :: ns)) Q)
  | h, _, _, ms, _, Q => (h, Q, ms)
def zM (aB : fE) (h : HC) (Q : mU) : fE
  | [], _, _, _ => False
  | _ :: p, ns, e, M => match walk P pr aB h p.reverse [] ns.reverse [] Q with
    | (.join _ _ y, Q', _) => wpX P pr aB y (true :: p) ns Q' e M
    | (.loop live x, Q', _) => match ns with
      | (k + 1) :: ns' => wpX P pr aB x (false :: p) (k :: ns') (vO live (aB (false :: p) (k :: ns')) Q') e M
      | _ => False
    | _ => False
def tY (h : HC) (Q : mU) : fE
  | [], _, _, _ => False
  | _ :: p, ns, e, M => match y7 P pr h p.reverse ns.reverse Q with
    | (.join _ _ y, Q') => sJ P pr y Q' e M
    | (.loop live x, Q') => match ns with
      | k :: _ => wY live (sJ P pr x) Q' k e M
      | [] => False
    | _ => False
end
section
variable (P : Program) (pr : Prim)
inductive At (h0 : HC) (Q0 : mU) : List Bool → List Nat → HC → mU → Prop
  | top : At h0 Q0 [] [] h0 Q0
  | aKr {p ns x y Q} : At h0 Q0 p ns (.seq x y) Q → At h0 Q0 (false :: p) ns x (aAP (sJ P pr y Q) Q)
  | aKJ {p ns x y Q} : At h0 Q0 p ns (.seq x y) Q → At h0 Q0 (true :: p) ns y Q
  | aIf {p ns live x y Q} : At h0 Q0 p ns (.join live x y) Q → At h0 Q0 (false :: p) ns x (vO live (sJ P pr y Q) Q)
  | aJG {p ns live x y Q} : At h0 Q0 p ns (.join live x y) Q → At h0 Q0 (true :: p) ns y Q
  | aJB {p ns c x y Q} : At h0 Q0 p ns (.cond c x y) Q → At h0 Q0 (false :: p) ns x Q
  | aJK {p ns c x y Q} : At h0 Q0 p ns (.cond c x y) Q → At h0 Q0 (true :: p) ns y Q
  | block {p ns id x Q} : At h0 Q0 p ns (.block id x) Q → At h0 Q0 (false :: p) ns x (aGi id Q)
  | loop {p ns live x Q k} : At h0 Q0 p ns (.loop live x) Q → At h0 Q0 (false :: p) (k :: ns) x (vO live (wY live (sJ P pr x) Q k) Q)
def reach : HC → List Bool → List Nat → Bool
  | .seq x _, false :: q, ms => reach x q ms
  | .seq _ y, true :: q, ms => reach y q ms
  | .join _ x _, false :: q, ms => reach x q ms
  | .join _ _ y, true :: q, ms => reach y q ms
  | .cond _ x _, false :: q, ms => reach x q ms
  | .cond _ _ y, true :: q, ms => reach y q ms
  | .block _ x, false :: q, ms => reach x q ms
  | .loop _ x, false :: q, _ :: ms => reach x q ms
  | .join .., [], [] => true
  | .loop .., [], [_] => true
  | _, _, _ => false
end
section
variable {P : Program} {pr : Prim}
theorem At.ctx {h0 : HC} {Q0 : mU} {p : List Bool} {ns : List Nat} {h : HC} {Q : mU} (a : At P pr h0 Q0 p ns h Q) :
    ∀ q ms, y7 P pr h0 (p.reverse ++ q) (ns.reverse ++ ms) Q0 = y7 P pr h q ms Q := by
  induction a with
  | top => intro q ms; rfl
  | _ => rename_i ih; intro q ms; simp only [List.reverse_cons, List.append_assoc, List.cons_append, List.nil_append, ih, y7]
theorem tT (h : HC) (ms : List Nat) (Q : mU) : y7 P pr h [] ms Q = (h, Q) := by cases h <;> cases ms <;> rfl
theorem yT {h0 : HC} {Q0 : mU} : ∀ (h : HC) (p : List Bool) (ns : List Nat) (Q : mU), At P pr h0 Q0 p ns h Q → wpX P pr (tY P pr h0 Q0) h p ns Q = sJ P pr h Q := by
  intro h
  induction h with
  | region id ops dr => intros; rfl
  | seq x y ihx ihy =>
    intro p ns Q a
    funext env M
    simp only [wpX, sJ]
    rw [ihy _ _ _ a.aKJ, ihx _ _ _ a.aKr]
  | join live x y ihx ihy =>
    intro p ns Q a
    funext env M
    have e : tY P pr h0 Q0 (true :: p) ns = sJ P pr y Q := by
      funext e M
      have := a.ctx [] []
      simp only [List.append_nil, tT] at this
      simp only [tY, this]
    simp only [wpX, sJ]
    rw [e, ihx _ _ _ a.aIf]
  | cond c x y ihx ihy =>
    intro p ns Q a
    funext env M
    simp only [wpX, sJ]
    rw [ihx _ _ _ a.aJB, ihy _ _ _ a.aJK]
    cases ev env c <;> rfl
  | block id x ih =>
    intro p ns Q a
    funext env M
    simp only [wpX, sJ]
    rw [ih _ _ _ a.block]
  | loop live x ih =>
    intro p ns Q a
    funext env M
    simp only [wpX, sJ]
    refine congrArg _ (funext fun e => propext (exists_congr fun k => ?_))
    have := a.ctx [] [k]
    simp only [List.append_nil, tT] at this
    simp only [tY, List.reverse_cons, this]
  | _ => intros; rfl
theorem At.walk {h0 : HC} {Q0 : mU} {p : List Bool} {ns : List Nat} {h : HC} {Q : mU} (a : At P pr h0 Q0 p ns h Q) :
    ∀ q ms, walk P pr (tY P pr h0 Q0) h0 (p.reverse ++ q) [] (ns.reverse ++ ms) [] Q0 = HL.walk P pr (tY P pr h0 Q0) h q p ms ns Q := by
  induction a with
  | top => intro q ms; rfl
  | aKr a ih => intro q ms; simp only [List.reverse_cons, List.append_assoc, List.cons_append, List.nil_append, ih, HL.walk, yT _ _ _ _ a.aKJ]
  | aIf a ih =>
    intro q ms
    rename_i p ns live x y Q
    have e : tY P pr h0 Q0 (true :: p) ns = sJ P pr y Q := by
      funext e M
      have := a.ctx [] []
      simp only [List.append_nil, tT] at this
      simp only [tY, this]
    simp only [List.reverse_cons, List.append_assoc, List.cons_append, List.nil_append, ih, HL.walk, e]
  | loop a ih =>
    intro q ms
    rename_i p ns live x Q k
    have e : tY P pr h0 Q0 (false :: p) (k :: ns) = wY live (sJ P pr x) Q k := by
      funext e M
      have := a.ctx [] [k]
      simp only [List.append_nil, tT] at this
      simp only [tY, List.reverse_cons, this]
    simp only [List.reverse_cons, List.append_assoc, List.cons_append, List.nil_append, ih, HL.walk, e]
  | _ => rename_i ih; intro q ms; simp only [List.reverse_cons, List.append_assoc, List.cons_append, List.nil_append, ih, HL.walk]
theorem aC2 (aB : fE) (h : HC) (p : List Bool) (ms ns : List Nat) (Q : mU) : walk P pr aB h [] p ms ns Q = (h, Q, ms) := by cases h <;> cases ms <;> rfl
theorem At.reach {h0 : HC} {Q0 : mU} : ∀ (q : List Bool) {p : List Bool} {ns ms : List Nat} {h : HC} {Q : mU}, At P pr h0 Q0 p ns h Q → reach h q ms = true →
    (∃ live x y Q', At P pr h0 Q0 (q.reverse ++ p) (ms.reverse ++ ns) (.join live x y) Q') ∨
    (∃ live x Q' k ms', ms.reverse = k :: ms' ∧ At P pr h0 Q0 (q.reverse ++ p) (ms' ++ ns) (.loop live x) Q') := by
  intro q
  induction q with
  | nil =>
    intro p ns ms h Q a hr
    cases h <;> cases ms <;> (try (simp [HL.reach] at hr; done))
    · exact .inl ⟨_, _, _, _, a⟩
    · rename_i live x k ms
      cases ms with
      | nil => exact .inr ⟨_, _, _, k, [], rfl, a⟩
      | cons _ _ => simp [HL.reach] at hr
  | cons b q ih =>
    intro p ns ms h Q a hr
    cases h with
    | seq x y => cases b <;> simp only [HL.reach] at hr <;> simpa using ih (by first | exact a.aKr | exact a.aKJ) hr
    | join live x y => cases b <;> simp only [HL.reach] at hr <;> simpa using ih (by first | exact a.aIf | exact a.aJG) hr
    | cond c x y => cases b <;> simp only [HL.reach] at hr <;> simpa using ih (by first | exact a.aJB | exact a.aJK) hr
    | block id x => cases b <;> simp only [HL.reach] at hr <;> first | cases hr | simpa using ih a.block hr
    | loop live x =>
      cases b <;> cases ms <;> simp only [HL.reach] at hr <;> try (cases hr; done)
      rename_i k ms
      rcases ih (a.loop (k := k)) hr with h | ⟨live, x, Q', k', ms', e, h⟩
      · left; simpa using h
      · refine .inr ⟨live, x, Q', k', ms' ++ [k], by simp [e], ?_⟩
        simpa using h
    | _ => simp [HL.reach] at hr
theorem z7 {h0 : HC} {Q0 : mU} {b : Bool} {p : List Bool} {ns : List Nat} (hr : reach h0 p.reverse ns.reverse = true) (e : Env) (M : Mem) :
    tY P pr h0 Q0 (b :: p) ns e M = zM P pr (tY P pr h0 Q0) h0 Q0 (b :: p) ns e M := by
  rcases At.reach p.reverse (At.top (P := P) (pr := pr) (h0 := h0) (Q0 := Q0)) hr with ⟨live, x, y, Q', a⟩ | ⟨live, x, Q', k, ns', hk, a⟩
  · simp only [List.reverse_reverse, List.append_nil] at a
    have h1 := a.ctx [] []
    have h2 := a.walk [] []
    simp only [List.append_nil, tT] at h1
    simp only [List.append_nil, aC2] at h2
    simp only [zM, h2, yT _ _ _ _ a.aJG]
    simp only [tY, h1]
  · simp only [List.reverse_reverse, List.append_nil] at a hk
    subst hk
    have h1 := a.ctx [] [k]
    have h2 := a.walk [] [k]
    simp only [List.append_nil, tT, ← List.reverse_cons] at h1
    simp only [List.append_nil, aC2, ← List.reverse_cons] at h2
    cases k with
    | zero =>
      simp only [zM, h2]
      simp only [tY, h1, wY]
    | succ k =>
      have a' := a.loop (k := k)
      have e : tY P pr h0 Q0 (false :: p) (k :: ns') = wY live (sJ P pr x) Q' k := by
        funext e M
        have := a.ctx [] [k]
        simp only [List.append_nil, tT] at this
        simp only [tY, List.reverse_cons, this]
      simp only [zM, h2]
      rw [e, yT _ _ _ _ a']
      simp only [tY, h1, wY]
theorem aE4 {h0 : HC} {Q0 : mU} {e : Env} {M : Mem} : sJ P pr h0 Q0 e M = wpX P pr (tY P pr h0 Q0) h0 [] [] Q0 e M := by
  rw [yT _ _ _ _ (At.top)]
end
end Go.Proofs.YtodobkbnmjgkdaaGreat.HL
