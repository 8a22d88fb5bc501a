import Derived.Test.YtodobkbnmjgkdaaGreatProg
import Derived.Below
import Derived.Orders
import Derived.KernelRfl
import Derived.Laws.Sem
import Derived.Deep.LoopGhost
import Derived.Tactics
import Derived.Laws.Append
import Derived.Lib.Overlaps
import Derived.Test.YtodobkbnmjgkdaaGreatRows
import Derived.ProofKit
import Derived.ChangeSlices
import Derived.Deep.Slices
set_option linter.unusedVariables false
set_option linter.unusedSimpArgs false
namespace Go.Proofs.YtodobkbnmjgkdaaGreat.HL
open Go.RowKit (Below)
structure Shp where
  holds : World → Nat → (Nat → Prop) → Prop
  frame : ∀ w w' b F, (∀ x, F x → w'.heap[x]? = w.heap[x]?) → holds w b F → holds w' b F
inductive Ob where
  | row (cs : List Value) (e : TypeId)
  | obj (o : Obj)
  | shp (p : Shp)
def Ob.holds (w : World) (b : Nat) (F : Nat → Prop) : Ob → Prop
  | .row cs e => w.heap[b]? = some (.cells cs.toArray e (0, 0))
  | .obj o => w.heap[b]? = some o
  | .shp p => p.holds w b F
theorem Ob.frame {w w' : World} {b : Nat} {F : Nat → Prop} (hb : F b) (h : ∀ x, F x → w'.heap[x]? = w.heap[x]?) {o : Ob} (ho : o.holds w b F) : o.holds w' b F := by
  cases o with
  | row cs e => exact (h b hb).trans ho
  | obj o => exact (h b hb).trans ho
  | shp p => exact p.frame w w' b F h ho
abbrev Mem := Nat → Option Ob
def Mem.set (M : Mem) (b : Nat) (o : Ob) : Mem := fun x => if x = b then some o else M x
def Mem.del (M : Mem) (b : Nat) : Mem := fun x => if x = b then none else M x
theorem Mem.mF (M : Mem) (b : Nat) (o : Ob) : (M.set b o) b = some o := by simp [Mem.set]
theorem Mem.nD (M : Mem) {b x : Nat} (o : Ob) (h : x ≠ b) : (M.set b o) x = M x := by simp [Mem.set, h]
theorem Mem.set_set (M : Mem) (b : Nat) (o o' : Ob) : (M.set b o).set b o' = M.set b o' := by
  funext x; simp only [Mem.set]; split <;> rfl
theorem Mem.aLp (M : Mem) {b : Nat} {o : Ob} (h : M b = some o) : M.set b o = M := by
  funext x; simp only [Mem.set]; split
  · subst_vars; exact h.symm
  · rfl
def Mem.le (M' M : Mem) : Prop := ∀ b o, M' b = some o → M b = some o
theorem Mem.le_refl (M : Mem) : Mem.le M M := fun _ _ h => h
theorem Mem.le_trans {A B C : Mem} (h : Mem.le A B) (k : Mem.le B C) : Mem.le A C := fun b o x => k b o (h b o x)
theorem Mem.fC {M : Mem} {b : Nat} (o : Ob) (h : M b = none) : Mem.le M (M.set b o) := fun x o' hx => by
  simp only [Mem.set]; split
  · subst_vars; rw [h] at hx; cases hx
  · exact hx
def Rel (w0 : World) (M : Mem) (w : World) : Prop := ∃ F : Nat → Nat → Prop,
  (∀ b b' x, F b x → F b' x → b = b') ∧
  (∀ b x, F b x → w0.heap.size ≤ x ∧ x < w.heap.size) ∧
  (∀ b o, M b = some o → F b b ∧ o.holds w b (F b)) ∧
  Below w0.heap.size w0 w
theorem Rel.mono {w0 : World} {M M' : Mem} {w : World} (h : Rel w0 M w) (hl : Mem.le M' M) : Rel w0 M' w := by
  obtain ⟨F, h1, h2, h3, h4⟩ := h
  exact ⟨F, h1, h2, fun b o ho => h3 b o (hl b o ho), h4⟩
theorem Rel.below {w0 : World} {M : Mem} {w : World} (h : Rel w0 M w) : Below w0.heap.size w0 w := h.choose_spec.2.2.2
theorem Rel.fresh {w0 : World} {M : Mem} {w : World} (h : Rel w0 M w) : M w.heap.size = none := by
  obtain ⟨F, h1, h2, h3, h4⟩ := h
  cases hm : M w.heap.size with
  | none => rfl
  | some o => exact absurd (h2 _ _ (h3 _ _ hm).1).2 (by omega)
theorem Rel.size {w0 : World} {M : Mem} {w : World} (h : Rel w0 M w) : w0.heap.size ≤ w.heap.size := h.below.size
theorem Rel.row {w0 : World} {M : Mem} {w : World} (h : Rel w0 M w) {b : Nat} {cs : List Value} {e : TypeId} (ho : M b = some (.row cs e)) :
    w.heap[b]? = some (.cells cs.toArray e (0, 0)) := by
  obtain ⟨F, h1, h2, h3, h4⟩ := h
  exact (h3 _ _ ho).2
theorem Rel.obj {w0 : World} {M : Mem} {w : World} (h : Rel w0 M w) {b : Nat} {o : Obj} (ho : M b = some (.obj o)) : w.heap[b]? = some o := by
  obtain ⟨F, h1, h2, h3, h4⟩ := h
  exact (h3 _ _ ho).2
theorem Rel.drew {w0 : World} {M : Mem} {w : World} (h : Rel w0 M w) (n : Nat) : Rel w0 M { w with drawn := n } := by
  obtain ⟨F, h1, h2, h3, h4⟩ := h
  exact ⟨F, h1, h2, fun b o ho => ⟨(h3 b o ho).1, Ob.frame (w := w) (w' := { w with drawn := n }) (h3 b o ho).1 (fun _ _ => rfl) (h3 b o ho).2⟩, ⟨h4.os, h4.tape, h4.output, h4.size, h4.block⟩⟩
theorem Rel.put {w0 : World} {M : Mem} {w w' : World} {b : Nat} {o o' : Ob} (h : Rel w0 M w) (ho : M b = some o) (hs : w'.heap.size = w.heap.size)
    (hos : w'.os = w.os) (ht : w'.tape = w.tape) (hu : w'.output = w.output)
    (hother : ∀ x, x ≠ b → w'.heap[x]? = w.heap[x]?) (hnew : ∀ F : Nat → Prop, F b → o'.holds w' b F) : Rel w0 (M.set b o') w' := by
  obtain ⟨F, h1, h2, h3, h4⟩ := h
  have hb := (h3 b o ho).1
  refine ⟨F, h1, fun c x hx => by rw [hs]; exact h2 c x hx, fun c oc hc => ?_, ?_⟩
  · simp only [Mem.set] at hc
    split at hc
    · rename_i e; subst e; cases hc; exact ⟨hb, hnew _ hb⟩
    · rename_i e
      obtain ⟨hf, hh⟩ := h3 c oc hc
      refine ⟨hf, Ob.frame hf (fun x hx => hother x ?_) hh⟩
      intro e'; subst e'; exact e (h1 _ _ _ hx hb)
  · refine ⟨hos.trans h4.os, ht.trans h4.tape, hu.trans h4.output, by rw [hs]; exact h4.size, fun k hk => ?_⟩
    rw [hother k (by have := (h2 b b hb).1; omega)]
    exact h4.block k hk
theorem Rel.new {w0 : World} {M : Mem} {w : World} {o : Obj} {o' : Ob} (h : Rel w0 M w)
    (hnew : ∀ (w' : World) (F : Nat → Prop), w'.heap[w.heap.size]? = some o → F w.heap.size → o'.holds w' w.heap.size F) :
    Rel w0 (M.set w.heap.size o') { w with heap := w.heap.push o } := by
  have hfr := h.fresh
  have hsz := h.size
  obtain ⟨F, h1, h2, h3, h4⟩ := h
  have hold : ∀ x, x < w.heap.size → (w.heap.push o)[x]? = w.heap[x]? := fun x hx => by rw [Array.getElem?_push, if_neg (by omega)]
  refine ⟨fun b x => (b = w.heap.size ∧ x = w.heap.size) ∨ (b ≠ w.heap.size ∧ F b x), ?_, ?_, ?_, ?_⟩
  · rintro b b' x (⟨rfl, rfl⟩ | ⟨hb, hx⟩) (⟨rfl, hx'⟩ | ⟨hb', hx'⟩)
    · rfl
    · exact absurd (h2 _ _ hx').2 (by omega)
    · exact absurd (h2 _ _ hx).2 (by omega)
    · exact h1 _ _ _ hx hx'
  · rintro b x (⟨rfl, rfl⟩ | ⟨hb, hx⟩)
    · exact ⟨hsz, by simp⟩
    · have := h2 _ _ hx; simp only [Array.size_push]; omega
  · intro b ob hob
    simp only [Mem.set] at hob
    split at hob
    · rename_i e; subst e; cases hob
      exact ⟨.inl ⟨rfl, rfl⟩, hnew _ _ (by simp) (.inl ⟨rfl, rfl⟩)⟩
    · rename_i e
      obtain ⟨hf, hh⟩ := h3 b ob hob
      refine ⟨.inr ⟨e, hf⟩, ?_⟩
      have hh' : ob.holds { w with heap := w.heap.push o } b (F b) := Ob.frame hf (fun x hx => hold x (h2 _ _ hx).2) hh
      have heq : (fun x => (b = w.heap.size ∧ x = w.heap.size) ∨ (b ≠ w.heap.size ∧ F b x)) = F b := by
        funext x; simp [e]
      show Ob.holds _ b (fun x => (b = w.heap.size ∧ x = w.heap.size) ∨ (b ≠ w.heap.size ∧ F b x)) ob
      rw [heq]; exact hh'
  · refine ⟨h4.os, h4.tape, h4.output, by simp; omega, fun k hk => ?_⟩
    rw [show ({ w with heap := w.heap.push o } : World).heap[k]? = (w.heap.push o)[k]? from rfl, hold k (by omega)]
    exact h4.block k hk
section
variable (P : Program) (w0 : World)
def rd (M : Mem) (a : Addr) : Option Value :=
  if a.block < w0.heap.size then w0.cell? a else
  match M a.block with
  | some (.row cs _) => if a.spot.isSome then none else cs[a.off]?
  | _ => none
def aGP (M : Mem) (r : Nat) : Option (Option (TypeId × Nat)) :=
  if r < w0.heap.size then some (w0.shape? r) else
  match M r with
  | some (.row cs e) => some (some (e, cs.length))
  | _ => none
def aGU (M : Mem) (a : Addr) : Option Bool :=
  if a.block < w0.heap.size then some (w0.frozen? a) else
  match M a.block with
  | some (.row _ _) => some false
  | _ => none
def Obj.plain : Obj → Bool
  | .cells .. => false
  | _ => true
def aDT (M : Mem) (r : Nat) : Option Obj :=
  match (if r < w0.heap.size then w0.heap[r]? else match M r with | some (.obj o) => some o | _ => none) with
  | some o => if Obj.plain o then some o else none
  | none => none
def fD {α : Type} (M : Mem) : Sem α → Option α
  | .pure a => some a
  | .load _ a k => match rd w0 M a with
    | some v => fD M (k v)
    | none => none
  | .shape r k => match aGP w0 M r with
    | some s => fD M (k s)
    | none => none
  | .frozen a k => match aGU w0 M a with
    | some b => fD M (k b)
    | none => none
  | .getObj r k => match aDT w0 M r with
    | some o => fD M (k o)
    | none => none
  | .program k => fD M (k P)
  | _ => none
def bS : Value → Bool
  | .agg _ => false
  | .tuple _ => false
  | _ => true
def act {α : Type} : Sem α → (α → Mem → Prop) → Mem → Prop
  | .pure a, Q, M => Q a M
  | .load _ a k, Q, M => match rd w0 M a with
    | some v => act (k v) Q M
    | none => False
  | .shape r k, Q, M => match aGP w0 M r with
    | some s => act (k s) Q M
    | none => False
  | .frozen a k, Q, M => match aGU w0 M a with
    | some b => act (k b) Q M
    | none => False
  | .getObj r k, Q, M => match aDT w0 M r with
    | some o => act (k o) Q M
    | none => False
  | .store _ a v k, Q, M => match M a.block with
    | some (.row cs e) => a.spot = none ∧ a.off < cs.length ∧ bS v = true ∧ act k Q (M.set a.block (.row (cs.set a.off v) e))
    | _ => False
  | .setObj r o k, Q, M => match M r with
    | some (.obj o') => Obj.plain o' = true ∧ act k Q (M.set r (.obj o))
    | _ => False
  | .new o k, Q, M => match o with
    | .cells c e fz => fz = (0, 0) ∧ ∀ b, M b = none → w0.heap.size ≤ b → act (k b) Q (M.set b (.row c.toList e))
    | o => Obj.plain o = true ∧ ∀ b, M b = none → w0.heap.size ≤ b → act (k b) Q (M.set b (.obj o))
  | .choose q k, Q, M => if q.forced then act (k 0) Q M else ∀ t, act (k (q.cut t)) Q M
  | .program k, Q, M => act (k P) Q M
  | .mark _ k, Q, M => act k Q M
  | _, _, _ => False
variable {P w0}
theorem aEs {M : Mem} {w : World} (h : Rel w0 M w) {a : Addr} {v : Value} (hr : rd w0 M a = some v) : w.cell? a = some v := by
  unfold rd at hr
  split at hr
  · rename_i hb
    rw [h.below.cell hb]; exact hr
  · split at hr
    · rename_i cs e hm
      split at hr
      · cases hr
      · rename_i hs
        have := h.row hm
        simp only [World.cell?, this]
        rw [if_neg hs]; simpa using hr
    · cases hr
theorem aCd {M : Mem} {w : World} (h : Rel w0 M w) {r : Nat} {s : Option (TypeId × Nat)} (hr : aGP w0 M r = some s) : w.shape? r = s := by
  unfold aGP at hr
  split at hr
  · rename_i hb
    have := h.below.block r hb
    simp only [World.shape?, this]
    simpa [World.shape?] using hr
  · split at hr
    · rename_i cs e hm
      have := h.row hm
      simp only [World.shape?, this]; simpa using hr
    · cases hr
theorem aCE {M : Mem} {w : World} (h : Rel w0 M w) {a : Addr} {s : Bool} (hr : aGU w0 M a = some s) : w.frozen? a = s := by
  unfold aGU at hr
  split at hr
  · rename_i hb
    rw [h.below.frozen hb]; simpa using hr
  · split at hr
    · rename_i cs e hm
      have := h.row hm
      simp only [World.frozen?, this]
      simp at hr; subst hr; simp
    · cases hr
theorem aCe {M : Mem} {w : World} (h : Rel w0 M w) {r : Nat} {o : Obj} (hr : aDT w0 M r = some o) : w.heap[r]? = some o ∧ Obj.plain o = true := by
  unfold aDT at hr
  split at hr
  · rename_i o' ho
    split at hr
    · rename_i hp
      cases hr
      refine ⟨?_, hp⟩
      split at ho
      · rename_i hb; rw [h.below.block r hb]; exact ho
      · split at ho
        · rename_i o2 hm; cases ho; exact h.obj hm
        · cases ho
    · cases hr
  · cases hr
theorem rX {α : Type} {M : Mem} {w : World} (h : Rel w0 M w) {s : Sem α} {a : α} (hp : fD P w0 M s = some a) : s.run P w = .ok a w := by
  induction s with
  | pure x => simp only [fD] at hp; cases hp; rfl
  | load m ad k ih =>
    simp only [fD] at hp
    split at hp
    · rename_i v hv
      simp only [Sem.run, aEs h hv]; exact ih v hp
    · cases hp
  | shape r k ih =>
    simp only [fD] at hp
    split at hp
    · rename_i s hs
      simp only [Sem.run, aCd h hs]; exact ih s hp
    · cases hp
  | frozen ad k ih =>
    simp only [fD] at hp
    split at hp
    · rename_i s hs
      simp only [Sem.run, aCE h hs]; exact ih s hp
    · cases hp
  | getObj r k ih =>
    simp only [fD] at hp
    split at hp
    · rename_i o ho
      obtain ⟨h1, h2⟩ := aCe h ho
      simp only [Sem.run, h1]
      cases o <;> first | exact ih _ hp | (simp [Obj.plain] at h2)
    · cases hp
  | program k ih => simp only [fD] at hp; simp only [Sem.run]; exact ih P hp
  | _ => simp [fD] at hp
theorem aAl {α : Type} {s : Sem α} : ∀ {Q : α → Mem → Prop} {M : Mem} {w : World}, Rel w0 M w → act P w0 s Q M →
    ∃ a w', s.run P w = .ok a w' ∧ ∃ M', Q a M' ∧ Rel w0 M' w' := by
  induction s with
  | pure x => intro Q M w h hq; exact ⟨x, w, rfl, M, hq, h⟩
  | load m ad k ih =>
    intro Q M w h hp
    simp only [act] at hp
    split at hp
    · rename_i v hv
      simp only [Sem.run, aEs h hv]; exact ih v h hp
    · exact hp.elim
  | shape r k ih =>
    intro Q M w h hp
    simp only [act] at hp
    split at hp
    · rename_i s hs
      simp only [Sem.run, aCd h hs]; exact ih s h hp
    · exact hp.elim
  | frozen ad k ih =>
    intro Q M w h hp
    simp only [act] at hp
    split at hp
    · rename_i s hs
      simp only [Sem.run, aCE h hs]; exact ih s h hp
    · exact hp.elim
  | getObj r k ih =>
    intro Q M w h hp
    simp only [act] at hp
    split at hp
    · rename_i o ho
      obtain ⟨h1, h2⟩ := aCe h ho
      simp only [Sem.run, h1]
      cases o <;> first | exact ih _ h hp | (simp [Obj.plain] at h2)
    · exact hp.elim
  | store m ad v k ih =>
    intro Q M w h hp
    simp only [act] at hp
    split at hp
    · rename_i cs e hm
      obtain ⟨hs, hl, ho, hk⟩ := hp
      have hrow := h.row hm
      have hc : w.cell? ad = some cs[ad.off] := by
        simp only [World.cell?, hrow, hs]
        simp [hl]
      have hf : w.frozen? ad = false := by
        simp only [World.frozen?, hrow]; simp
      have hheap : (w.setCell ad v).heap[ad.block]? = some (.cells (cs.set ad.off v).toArray e (0, 0)) := by
        simp only [World.setCell, Array.getElem?_modify, if_true, hrow, Option.map_some, hs]
        simp
      have hrel : Rel w0 (M.set ad.block (.row (cs.set ad.off v) e)) (w.setCell ad v) :=
        h.put hm (by simp [World.setCell]) rfl rfl rfl (fun x hx => by
          simp only [World.setCell, Array.getElem?_modify]; rw [if_neg (fun e => hx e.symm)]) (fun F _ => hheap)
      obtain ⟨a, w', hr, hq⟩ := ih hrel hk
      refine ⟨a, w', ?_, hq⟩
      cases v <;> simp only [bS, Bool.false_eq_true] at ho <;> simp only [Sem.run, hc, hf] <;> simpa using hr
    · exact hp.elim
  | setObj r o k ih =>
    intro Q M w h hp
    simp only [act] at hp
    split at hp
    · rename_i o' hm
      obtain ⟨vQ, hk⟩ := hp
      have hob := h.obj hm
      have hlt : r < w.heap.size := by
        rcases Nat.lt_or_ge r w.heap.size with h' | h'
        · exact h'
        · rw [Array.getElem?_eq_none h'] at hob; cases hob
      have hrel : Rel w0 (M.set r (.obj o)) { w with heap := w.heap.setIfInBounds r o } :=
        h.put hm (by simp) rfl rfl rfl (fun x hx => by
          simp only [Array.getElem?_setIfInBounds]; rw [if_neg (fun e => hx e.symm)]) (fun F _ => by
          show (w.heap.setIfInBounds r o)[r]? = some o
          simp [hlt])
      obtain ⟨a, w', hr, hq⟩ := ih hrel hk
      refine ⟨a, w', ?_, hq⟩
      simp only [Sem.run, hob]
      cases o' <;> first | exact hr | (simp [Obj.plain] at vQ)
    · exact hp.elim
  | new o k ih =>
    intro Q M w h hp
    have hfr := h.fresh
    have hsz := h.size
    simp only [Sem.run]
    cases o with
    | cells c e fz =>
      simp only [act] at hp
      obtain ⟨rfl, hk⟩ := hp
      exact ih _ (h.new (o := .cells c e (0, 0)) (o' := .row c.toList e) (fun w' F hw _ => by simpa [Ob.holds] using hw)) (hk _ hfr hsz)
    | _ =>
      simp only [act] at hp
      exact ih _ (h.new (o' := .obj _) (fun w' F hw _ => hw)) (hp.2 _ hfr hsz)
  | choose q k ih =>
    intro Q M w h hp
    simp only [act] at hp
    simp only [Sem.run]
    split at hp
    · rename_i hf; rw [if_pos hf]; exact ih _ h hp
    · rename_i hf; rw [if_neg hf]
      exact ih _ (h.drew (w.drawn + 1)) (hp _)
  | program k ih => intro Q M w h hp; simp only [act] at hp; simp only [Sem.run]; exact ih P h hp
  | mark m k ih => intro Q M w h hp; simp only [act] at hp; simp only [Sem.run]; exact ih h hp
  | _ => intro Q M w h hp; simp [act] at hp
theorem aG6 {α β : Type} {M : Mem} {s : Sem α} {f : α → Sem β} : fD P w0 M (s >>= f) = (fD P w0 M s).bind fun a => fD P w0 M (f a) := by
  show fD P w0 M (s.bind f) = _
  induction s with
  | pure x => rfl
  | load m ad k ih => simp only [Sem.bind, fD]; cases rd w0 M ad <;> simp [ih]
  | shape r k ih => simp only [Sem.bind, fD]; cases aGP w0 M r <;> simp [ih]
  | frozen ad k ih => simp only [Sem.bind, fD]; cases aGU w0 M ad <;> simp [ih]
  | getObj r k ih => simp only [Sem.bind, fD]; cases aDT w0 M r <;> simp [ih]
  | program k ih => simp only [Sem.bind, fD]; exact ih P
  | _ => simp [Sem.bind, fD]
theorem eJ {α β : Type} {s : Sem α} {f : α → Sem β} : ∀ {Q : β → Mem → Prop} {M : Mem}, act P w0 (s >>= f) Q M = act P w0 s (fun a M' => act P w0 (f a) Q M') M := by
  show ∀ {Q : β → Mem → Prop} {M : Mem}, act P w0 (s.bind f) Q M = _
  induction s with
  | pure x => intro Q M; rfl
  | load m ad k ih => intro Q M; simp only [Sem.bind, act]; cases rd w0 M ad <;> simp [ih]
  | shape r k ih => intro Q M; simp only [Sem.bind, act]; cases aGP w0 M r <;> simp [ih]
  | frozen ad k ih => intro Q M; simp only [Sem.bind, act]; cases aGU w0 M ad <;> simp [ih]
  | getObj r k ih => intro Q M; simp only [Sem.bind, act]; cases aDT w0 M r <;> simp [ih]
  | program k ih => intro Q M; simp only [Sem.bind, act]; exact ih P
  | store m ad v k ih => intro Q M; simp only [Sem.bind, act, ih]
  | setObj r o k ih => intro Q M; simp only [Sem.bind, act, ih]
  | new o k ih => intro Q M; cases o <;> simp only [Sem.bind, act, ih]
  | choose q k ih => intro Q M; simp only [Sem.bind, act, ih]
  | mark m k ih => intro Q M; simp only [Sem.bind, act]; exact ih
  | _ => intro Q M; simp [Sem.bind, act]
end
end Go.Proofs.YtodobkbnmjgkdaaGreat.HL
