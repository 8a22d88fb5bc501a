import Derived.Test.YtodobkbnmjgkdaaGreatPe12
set_option linter.unusedVariables false
set_option linter.unusedSimpArgs false
set_option maxRecDepth 100000
namespace Go.Proofs.YtodobkbnmjgkdaaGreat.HL
open Go.RowKit (Below)
section
variable {P : Program} {w0 : World}
theorem xV {α : Type} {f : Program → Sem α} : dT P (program >>= f) = dT P (f P) := rfl
theorem j3 {d : Nat} {t : TypeId} {k : IntKind} (h : P.underlying t = some (.int k)) (a b : Int) : dT P (Op.equalIn (d + 1) t (.int k a) (.int k b)) = some (a == b) := by
  unfold Op.equalIn
  rw [pure_bind, uS h]
  show dT P (if k = k then pure (a == b) else stuck "==: kinds differ") = some (a == b)
  rw [if_pos rfl]; rfl
def EqF (P : Program) (d : Nat) (xs ys : Array Value) : List Field → List Bool → Prop
  | [], [] => True
  | f :: fs, e :: es => f.name ≠ "_" ∧ (∃ x y, dT P (part f.type xs f.offset) = some x ∧ dT P (part f.type ys f.offset) = some y ∧ dT P (Op.equalIn d f.type x y) = some e) ∧ EqF P d xs ys fs es
  | _, _ => False
theorem aCF {σ : Type} {body : Field → σ → Sem (ForInStep σ)} {i r : σ} : ∀ (fs : List Field) (es : List Bool), fs.length = es.length →
    (∀ (j : Nat) (f : Field) (b : Bool), fs[j]? = some f → es[j]? = some b → dT P (body f i) = some (if b = true then ForInStep.yield i else ForInStep.done r)) →
    dT P (forIn fs i body) = some (if es.all id = true then i else r)
  | [], [], _, _ => by
    simp only [List.forIn_nil, List.all_nil]
    rfl
  | f :: fs, b :: es, hl, hb => by
    rw [List.forIn_cons, pure_bind, hb 0 f b rfl rfl]
    cases b with
    | false =>
      simp only [Bool.false_eq_true, if_false, Option.bind_some, List.all_cons, id, Bool.false_and]
      rfl
    | true =>
      simp only [if_true, Option.bind_some, List.all_cons, id, Bool.true_and]
      exact aCF fs es (by simpa using hl) (fun j f b hf hb' => hb (j + 1) f b (by simpa using hf) (by simpa using hb'))
theorem EqF.get {d : Nat} {xs ys : Array Value} : ∀ {fs : List Field} {es : List Bool}, EqF P d xs ys fs es → fs.length = es.length ∧ ∀ (j : Nat) (f : Field) (b : Bool), fs[j]? = some f → es[j]? = some b → f.name ≠ "_" ∧ ∃ x y, dT P (part f.type xs f.offset) = some x ∧ dT P (part f.type ys f.offset) = some y ∧ dT P (Op.equalIn d f.type x y) = some b
  | [], [], _ => ⟨rfl, fun j f b h => by simp at h⟩
  | f :: fs, e :: es, h => by
    obtain ⟨h1, h2, h3⟩ := h
    obtain ⟨hl, hh⟩ := EqF.get h3
    refine ⟨by simp [hl], fun j g b hg hb => ?_⟩
    cases j with
    | zero =>
      simp at hg hb
      subst hg; subst hb
      exact ⟨h1, h2⟩
    | succ j => exact hh j g b (by simpa using hg) (by simpa using hb)
theorem qY {d : Nat} {t : TypeId} {fs : Array Field} {xs ys : Array Value} {es : List Bool} (h : P.underlying t = some (.struct fs)) (hs : P.stoodInHeld t = false) (he : EqF P d xs ys fs.toList es) :
    dT P (Op.equalIn (d + 1) t (.agg xs) (.agg ys)) = some (es.all id) := by
  unfold Op.equalIn
  rw [pure_bind, uS h]
  simp only [Option.bind_some]
  rw [xV, hs]
  simp only [Bool.false_eq_true, if_false]
  rw [← Array.forIn_toList]
  obtain ⟨hl, hh⟩ := he.get
  have key := aCF (P := P) (r := ((some false : Option Bool), ())) (i := ((none : Option Bool), ())) (body := fun f r => do
      if f.name ≠ "_" then
        let u ← part f.type xs f.offset
        let v ← part f.type ys f.offset
        let w ← Op.equalIn d f.type u v
        if (!w) = true then pure (ForInStep.done (some false, ())) else pure (ForInStep.yield (none, ()))
      else pure (ForInStep.yield (none, ()))) fs.toList es hl (fun j f b hf hb => ?_)
  · rw [pure_bind]
    have key2 : dT P (forIn fs.toList ((none : Option Bool), ()) _) = _ := key
    first
      | rw [key2]
      | (refine (congrArg (fun o => Option.bind o _) key2).trans ?_)
    cases es.all id <;> rfl
  obtain ⟨h1, x, y, h2, h3, h4⟩ := hh j f b hf hb
  simp only [ne_eq, h1, not_false_eq_true, if_true]
  rw [pure_bind, h2]
  simp only [Option.bind_some]
  rw [pure_bind, h3]
  simp only [Option.bind_some]
  rw [pure_bind, h4]
  cases b <;> rfl
theorem aEV {t : TypeId} {fs : Array Field} {X Y : Operand} {xs ys : Array Value} {es : List Bool} (h : P.underlying t = some (.struct fs)) (hs : P.stoodInHeld t = false) (hg : P.eqGuardType P.depth t = false) (he : EqF P 9999 xs ys fs.toList es) :
    (aJ P w0).bq .eql t X Y (.agg xs) (.agg ys) = some (.bool (es.all id)) :=
  aA9 (fun op => by
    show dT P (if !(op matches .eql | .neq) then return () else _) = some ()
    cases op <;> first | rfl | (show dT P (program >>= fun p => if !(p.eqGuardType p.depth t) then return () else _) = some (); rw [xV, hg]; rfl)) rfl (qY h hs he)
theorem aA5 {t : TypeId} {fs : Array Field} {X Y : Operand} {xs ys : Array Value} {es : List Bool} (h : P.underlying t = some (.struct fs)) (hs : P.stoodInHeld t = false) (hg : P.eqGuardType P.depth t = false) (he : EqF P 9999 xs ys fs.toList es) :
    (aJ P w0).bq .neq t X Y (.agg xs) (.agg ys) = some (.bool (!es.all id)) :=
  aBR (fun op => by
    show dT P (if !(op matches .eql | .neq) then return () else _) = some ()
    cases op <;> first | rfl | (show dT P (program >>= fun p => if !(p.eqGuardType p.depth t) then return () else _) = some (); rw [xV, hg]; rfl)) rfl (qY h hs he)
end
end Go.Proofs.YtodobkbnmjgkdaaGreat.HL
