/-
  EnM: entries in order, in plain Lean, with no program in sight.
-/
import Derived.Test.YtgnfbodlpolibaaOrM
set_option linter.unusedVariables false
set_option linter.unusedSimpArgs false
namespace Go.Proofs.Ytgnfbodlpolibaa.HL

abbrev Ent := Int × Int
/-- One is ahead of another. -/
def Lt (a b : Ent) : Prop := a.1 < b.1 ∨ a.1 = b.1 ∧ a.2 < b.2
instance (a b : Ent) : Decidable (Lt a b) := by unfold Lt; infer_instance
theorem Lt.irr {a : Ent} : ¬ Lt a a := by unfold Lt; omega
theorem Lt.tr {a b c : Ent} (h : Lt a b) (h2 : Lt b c) : Lt a c := by unfold Lt at *; omega
theorem Lt.asym {a b : Ent} (h : Lt a b) : ¬ Lt b a := by unfold Lt at *; omega
theorem Lt.tot {a b : Ent} (h : ¬ Lt a b) (h2 : ¬ Lt b a) : a = b := by
  unfold Lt at *
  exact Prod.ext (by omega) (by omega)
theorem nLt.tr {a b c : Ent} (h : ¬ Lt b a) (h2 : ¬ Lt c b) : ¬ Lt c a := by unfold Lt at *; omega
theorem nLt.lt {a b c : Ent} (h : ¬ Lt b a) (h2 : Lt b c) : Lt a c := by unfold Lt at *; omega
theorem cmpI_lt (a b : Ent) : (cmpI a.1 a.2 b.1 b.2 < 0) = Lt a b := by
  unfold cmpI Lt
  apply propext
  split
  · omega
  · split
    · omega
    · split
      · omega
      · split <;> omega

def Srt (l : List Ent) : Prop := l.Pairwise fun a b => ¬ Lt b a
theorem Srt.eq : ∀ {l m : List Ent}, Srt l → Srt m → l.Perm m → l = m := by
  intro l
  induction l with
  | nil => intro m _ _ h; exact (List.Perm.nil_eq h)
  | cons a l ih =>
    intro m hl hm hp
    cases m with
    | nil => exact absurd hp.length_eq (by simp)
    | cons b m =>
      have hab : a = b := by
        rcases List.mem_cons.1 (hp.mem_iff.1 List.mem_cons_self) with h | h
        · exact h
        · rcases List.mem_cons.1 (hp.mem_iff.2 List.mem_cons_self) with h2 | h2
          · exact h2.symm
          · exact Lt.tot ((List.pairwise_cons.1 hm).1 _ h) ((List.pairwise_cons.1 hl).1 _ h2)
      subst hab
      rw [ih (List.pairwise_cons.1 hl).2 (List.pairwise_cons.1 hm).2 (List.Perm.cons_inv hp)]

/-- Where one is put. -/
def ins (l : List Ent) (e : Ent) : List Ent := l.takeWhile (fun x => decide (Lt x e)) ++ e :: l.dropWhile (fun x => decide (Lt x e))
theorem ins_perm (l : List Ent) (e : Ent) : (ins l e).Perm (e :: l) := by
  unfold ins
  refine List.perm_middle.trans ?_
  rw [List.takeWhile_append_dropWhile]
theorem ins_mem {l : List Ent} {e x : Ent} : x ∈ ins l e ↔ x = e ∨ x ∈ l := by
  rw [(ins_perm l e).mem_iff, List.mem_cons]
theorem ins_len (l : List Ent) (e : Ent) : (ins l e).length = l.length + 1 := by rw [(ins_perm l e).length_eq, List.length_cons]
theorem ins_cons (x : Ent) (l : List Ent) (e : Ent) : ins (x :: l) e = if Lt x e then x :: ins l e else e :: x :: l := by
  unfold ins
  by_cases h : Lt x e
  · simp [h]
  · simp [h]
theorem ins_srt {l : List Ent} {e : Ent} (h : Srt l) : Srt (ins l e) := by
  induction l with
  | nil => unfold ins Srt; simp
  | cons x l ih =>
    obtain ⟨h1, h2⟩ := List.pairwise_cons.1 h
    rw [ins_cons]
    split
    · rename_i hx
      refine List.pairwise_cons.2 ⟨fun y hy => ?_, ih h2⟩
      rcases ins_mem.1 hy with rfl | hy
      · exact hx.asym
      · exact h1 y hy
    · rename_i hx
      refine List.pairwise_cons.2 ⟨fun y hy => ?_, h⟩
      rcases List.mem_cons.1 hy with rfl | hy
      · exact hx
      · exact nLt.tr hx (h1 y hy)
def insAll (l m : List Ent) : List Ent := m.foldl ins l
theorem insAll_perm (m : List Ent) : ∀ l, (insAll l m).Perm (l ++ m) := by
  induction m with
  | nil => intro l; unfold insAll; simp
  | cons e m ih =>
    intro l
    show (insAll (ins l e) m).Perm _
    refine (ih _).trans ?_
    refine ((ins_perm l e).append_right m).trans ?_
    exact List.perm_middle.symm
theorem insAll_srt (m : List Ent) : ∀ {l}, Srt l → Srt (insAll l m) := by
  induction m with
  | nil => intro l h; exact h
  | cons e m ih => intro l h; exact ih (ins_srt h)
theorem Srt.sub {l m : List Ent} (h : Srt l) (hs : m.Sublist l) : Srt m := List.Pairwise.sublist hs h
theorem Srt.nil : Srt [] := List.Pairwise.nil

/-- Where the one of a serial stands. -/
def fnd (l : List Ent) (s : Int) : Option Nat := l.findIdx? fun e => decide (e.2 = s)
def fndI (l : List Ent) (s : Int) : Int := match fnd l s with
  | some i => (i : Int)
  | none => -1
theorem fnd_some {l : List Ent} {s : Int} {i : Nat} (h : fnd l s = some i) : ∃ e, l[i]? = some e ∧ e.2 = s ∧ ∀ j, j < i → ∀ x, l[j]? = some x → x.2 ≠ s := by
  unfold fnd at h
  obtain ⟨hi, h1, h2⟩ := List.findIdx?_eq_some_iff_getElem.1 h
  refine ⟨l[i], List.getElem?_eq_getElem hi, by simpa using h1, fun j hj x hx => ?_⟩
  obtain ⟨hj2, rfl⟩ := List.getElem?_eq_some_iff.1 hx
  simpa using h2 j hj
theorem fnd_none {l : List Ent} {s : Int} (h : fnd l s = none) : ∀ x ∈ l, x.2 ≠ s := by
  unfold fnd at h
  intro x hx
  simpa using List.findIdx?_eq_none_iff.1 h x hx
theorem fnd_of {l : List Ent} {s : Int} {i : Nat} {e : Ent} (h : l[i]? = some e) (hs : e.2 = s) (hb : ∀ j, j < i → ∀ x, l[j]? = some x → x.2 ≠ s) : fnd l s = some i := by
  unfold fnd
  refine List.findIdx?_eq_some_iff_getElem.2 ?_
  obtain ⟨hi, rfl⟩ := List.getElem?_eq_some_iff.1 h
  exact ⟨hi, by simpa using hs, fun j hj => by simpa using hb j hj _ (List.getElem?_eq_getElem (by omega))⟩
theorem fnd_no {l : List Ent} {s : Int} (h : ∀ x ∈ l, x.2 ≠ s) : fnd l s = none := by
  unfold fnd
  exact List.findIdx?_eq_none_iff.2 fun x hx => by simpa using h x hx

end Go.Proofs.Ytgnfbodlpolibaa.HL
