import Derived.Test.YtodobkbnmjgkdaaGreatPe10
set_option linter.unusedVariables false
set_option linter.unusedSimpArgs false
namespace Go.Proofs.YtodobkbnmjgkdaaGreat.HL
open Go.RowKit (Below)
abbrev Rw := Nat × List Value × TypeId
abbrev Rws := List Rw
section
variable {w0 : World} {F M M' : Mem}
structure Fit (w0 : World) (F M : Mem) (r : Rws) : Prop where
  nd : (r.map (·.1)).Nodup
  at_ : ∀ x ∈ r, w0.heap.size ≤ x.1 ∧ F x.1 = none ∧ M x.1 = some (.row x.2.1 x.2.2)
  fr : Mem.le F M
theorem Fit.own {r : Rws} (h : Fit w0 F M r) {b : Nat} {cs : List Value} {e : TypeId} (hx : (b, cs, e) ∈ r) : cS w0 M b cs e := ⟨(h.at_ _ hx).1, (h.at_ _ hx).2.2⟩
theorem Fit.le {r : Rws} (h : Fit w0 F M r) (hl : Mem.le M M') : Fit w0 F M' r :=
  ⟨h.nd, fun x hx => ⟨(h.at_ x hx).1, (h.at_ x hx).2.1, hl _ _ (h.at_ x hx).2.2⟩, Mem.le_trans h.fr hl⟩
theorem Fit.perm {r r' : Rws} (hp : r.Perm r') (h : Fit w0 F M r) : Fit w0 F M r' :=
  ⟨(hp.map _).nodup_iff.1 h.nd, fun x hx => h.at_ x (hp.mem_iff.2 hx), h.fr⟩
theorem Fit.upd {r : Rws} {b : Nat} {cs cs' : List Value} {e e' : TypeId} (h : Fit w0 F M ((b, cs, e) :: r)) : Fit w0 F (M.set b (.row cs' e')) ((b, cs', e') :: r) := by
  have fW := h.nd
  simp only [List.map_cons, List.nodup_cons] at fW
  refine ⟨by simpa using h.nd, fun x hx => ?_, fun y o hy => ?_⟩
  · rcases List.mem_cons.1 hx with rfl | hx
    · have := h.at_ _ (List.mem_cons_self (a := (b, cs, e)) (l := r))
      exact ⟨this.1, this.2.1, Mem.mF _ _ _⟩
    · obtain ⟨h1, h2, h3⟩ := h.at_ x (List.mem_cons_of_mem _ hx)
      refine ⟨h1, h2, ?_⟩
      rw [Mem.nD _ _ (fun e => fW.1 (by rw [← e]; exact List.mem_map_of_mem (f := (·.1)) hx))]
      exact h3
  · have := (h.at_ _ (List.mem_cons_self (a := (b, cs, e)) (l := r))).2.1
    rw [Mem.nD _ _ (fun e => by subst e; rw [this] at hy; cases hy)]
    exact h.fr y o hy
theorem Fit.new {r : Rws} {b : Nat} {cs : List Value} {e : TypeId} (h : Fit w0 F M r) (hb : M b = none) (hw : w0.heap.size ≤ b) : Fit w0 F (M.set b (.row cs e)) ((b, cs, e) :: r) := by
  have eT : ∀ x ∈ r, x.1 ≠ b := fun x hx e => by
    have := (h.at_ x hx).2.2; rw [e, hb] at this; cases this
  refine ⟨?_, fun x hx => ?_, xE h.fr (le_none h.fr hb)⟩
  · simp only [List.map_cons, List.nodup_cons]
    refine ⟨fun hm => ?_, h.nd⟩
    obtain ⟨x, hx, e⟩ := List.mem_map.1 hm
    exact eT x hx e
  · rcases List.mem_cons.1 hx with rfl | hx
    · exact ⟨hw, le_none h.fr hb, Mem.mF _ _ _⟩
    · obtain ⟨h1, h2, h3⟩ := h.at_ x hx
      exact ⟨h1, h2, by rw [Mem.nD _ _ (eT x hx)]; exact h3⟩
theorem Fit.nil (h : Mem.le F M) : Fit w0 F M [] := ⟨List.nodup_nil, fun x hx => (by cases hx), h⟩
theorem Fit.drop {r1 r2 : Rws} (h : Fit w0 F M (r1 ++ r2)) : Fit w0 F M r1 :=
  ⟨by have := h.nd; rw [List.map_append, List.nodup_append] at this; exact this.1, fun x hx => h.at_ x (List.mem_append_left _ hx), h.fr⟩
def ext (F : Mem) (r : Rws) : Mem := fun b => match r.find? (fun x => x.1 == b) with
  | some x => some (.row x.2.1 x.2.2)
  | none => F b
theorem wO {r : Rws} {b : Nat} : ext F r b = none ↔ F b = none ∧ ∀ x ∈ r, x.1 ≠ b := by
  unfold ext
  split
  · rename_i x hx
    have h1 := List.mem_of_find?_eq_some hx
    have h2 := List.find?_some hx
    simp only [beq_iff_eq] at h2
    exact ⟨fun h => (by cases h), fun h => absurd h2 (h.2 x h1)⟩
  · rename_i hx
    rw [List.find?_eq_none] at hx
    exact ⟨fun h => ⟨h, fun x hx' e => hx x hx' (by simp [e])⟩, fun h => h.1⟩
theorem aLl {r : Rws} (h1 : Mem.le F M) (h2 : ∀ x ∈ r, M x.1 = some (.row x.2.1 x.2.2)) : Mem.le (ext F r) M := by
  intro b o hb
  unfold ext at hb
  split at hb
  · rename_i x hx
    cases hb
    have h3 := List.mem_of_find?_eq_some hx
    have h4 := List.find?_some hx
    simp only [beq_iff_eq] at h4
    rw [← h4]; exact h2 x h3
  · exact h1 b o hb
theorem yN {r : Rws} (h : ∀ x ∈ r, F x.1 = none) : Mem.le F (ext F r) := by
  intro b o hb
  unfold ext
  split
  · rename_i x hx
    have h3 := List.mem_of_find?_eq_some hx
    have h4 := List.find?_some hx
    simp only [beq_iff_eq] at h4
    have := h x h3; rw [h4, hb] at this; cases this
  · exact hb
theorem aAR : ∀ {r : Rws} {x : Rw}, (r.map (·.1)).Nodup → x ∈ r → r.find? (fun y => y.1 == x.1) = some x
  | y :: r, x, hn, hx => by
    simp only [List.map_cons, List.nodup_cons] at hn
    rcases List.mem_cons.1 hx with rfl | hx
    · simp
    · rw [List.find?_cons]
      have : (y.1 == x.1) = false := by
        simp only [beq_eq_false_iff_ne]
        exact fun e => hn.1 (by rw [e]; exact List.mem_map_of_mem (f := (·.1)) hx)
      rw [this]
      exact aAR hn.2 hx
theorem Fit.aside {r1 r2 : Rws} (h : Fit w0 F M (r1 ++ r2)) : Fit w0 (ext F r2) M r1 ∧ ∀ M' r1', Fit w0 (ext F r2) M' r1' → Fit w0 F M' (r1' ++ r2) := by
  have fW := h.nd
  rw [List.map_append, List.nodup_append] at fW
  obtain ⟨n1, n2, n3⟩ := fW
  have hF : ∀ x ∈ r2, F x.1 = none := fun x hx => (h.at_ x (List.mem_append_right _ hx)).2.1
  refine ⟨⟨n1, fun x hx => ?_, aLl h.fr fun x hx => (h.at_ x (List.mem_append_right _ hx)).2.2⟩, fun M' r1' h' => ⟨?_, fun x hx => ?_, Mem.le_trans (yN hF) h'.fr⟩⟩
  · obtain ⟨h1, h2, h3⟩ := h.at_ x (List.mem_append_left _ hx)
    exact ⟨h1, wO.2 ⟨h2, fun y hy e => n3 x.1 (List.mem_map_of_mem (f := (·.1)) hx) y.1 (List.mem_map_of_mem (f := (·.1)) hy) e.symm⟩, h3⟩
  · rw [List.map_append, List.nodup_append]
    refine ⟨h'.nd, n2, fun a ha b hb => ?_⟩
    obtain ⟨x, hx, rfl⟩ := List.mem_map.1 ha
    obtain ⟨y, hy, rfl⟩ := List.mem_map.1 hb
    exact fun e => (wO.1 (h'.at_ x hx).2.1).2 y hy e.symm
  · rcases List.mem_append.1 hx with hx | hx
    · obtain ⟨h1, h2, h3⟩ := h'.at_ x hx
      exact ⟨h1, (wO.1 h2).1, h3⟩
    · obtain ⟨h1, h2, h3⟩ := h.at_ x (List.mem_append_right _ hx)
      refine ⟨h1, h2, h'.fr _ _ ?_⟩
      unfold ext
      rw [aAR n2 hx]
abbrev cI := Rws → Prop
def aA (w0 : World) (F M : Mem) (P : cI) : Prop := ∃ r, P r ∧ Fit w0 F M r
def star (P Q : cI) : cI := fun r => ∃ r1 r2, r = r1 ++ r2 ∧ P r1 ∧ Q r2
theorem aA.le {P : cI} (h : aA w0 F M P) (hl : Mem.le M M') : aA w0 F M' P := by
  obtain ⟨r, h1, h2⟩ := h; exact ⟨r, h1, h2.le hl⟩
theorem aA.fr {P : cI} (h : aA w0 F M P) : Mem.le F M := by
  obtain ⟨r, _, h2⟩ := h; exact h2.fr
theorem aA.imp {P Q : cI} (h : aA w0 F M P) (hi : ∀ r, P r → Q r) : aA w0 F M Q := by
  obtain ⟨r, h1, h2⟩ := h; exact ⟨r, hi r h1, h2⟩
theorem aA.comm {P Q : cI} (h : aA w0 F M (star P Q)) : aA w0 F M (star Q P) := by
  obtain ⟨r, ⟨r1, r2, rfl, h1, h2⟩, h3⟩ := h
  exact ⟨r2 ++ r1, ⟨r2, r1, rfl, h2, h1⟩, h3.perm List.perm_append_comm⟩
theorem aA.assoc {P Q S : cI} : aA w0 F M (star (star P Q) S) ↔ aA w0 F M (star P (star Q S)) := by
  constructor
  · rintro ⟨r, ⟨r1, r2, rfl, ⟨r3, r4, rfl, h1, h2⟩, h3⟩, h4⟩
    exact ⟨_, ⟨r3, r4 ++ r2, by simp, h1, r4, r2, rfl, h2, h3⟩, h4⟩
  · rintro ⟨r, ⟨r1, r2, rfl, h1, r3, r4, rfl, h2, h3⟩, h4⟩
    exact ⟨_, ⟨r1 ++ r3, r4, by simp, ⟨r1, r3, rfl, h1, h2⟩, h3⟩, h4⟩
theorem aA.aside {P Q : cI} (h : aA w0 F M (star P Q)) : ∃ F', aA w0 F' M P ∧ Mem.le F F' ∧ ∀ M' P', aA w0 F' M' P' → aA w0 F M' (star P' Q) := by
  obtain ⟨r, ⟨r1, r2, rfl, h1, h2⟩, h3⟩ := h
  obtain ⟨h4, h5⟩ := h3.aside
  refine ⟨ext F r2, ⟨r1, h1, h4⟩, yN fun x hx => (h3.at_ x (List.mem_append_right _ hx)).2.1, fun M' P' ⟨r', h6, h7⟩ => ?_⟩
  exact ⟨r' ++ r2, ⟨r', r2, rfl, h6, h2⟩, h5 M' r' h7⟩
theorem aA.left {P Q : cI} (h : aA w0 F M (star P Q)) : aA w0 F M P := by
  obtain ⟨r, ⟨r1, r2, rfl, h1, h2⟩, h3⟩ := h
  exact ⟨r1, h1, h3.drop⟩
theorem aA.right {P Q : cI} (h : aA w0 F M (star P Q)) : aA w0 F M Q := h.comm.left
theorem aA.new {P : cI} (h : aA w0 F M P) {b : Nat} (hb : M b = none) (hw : w0.heap.size ≤ b) (cs : List Value) (e : TypeId) : aA w0 F (M.set b (.row cs e)) (star (fun r => r = [(b, cs, e)]) P) := by
  obtain ⟨r, h1, h2⟩ := h
  exact ⟨(b, cs, e) :: r, ⟨[(b, cs, e)], r, rfl, rfl, h1⟩, h2.new hb hw⟩
theorem aA.beside {P Q : cI} (h : aA w0 F M P) (h2 : aA w0 M M' Q) : aA w0 F M' (star Q P) := by
  obtain ⟨r, h1, h3⟩ := h
  obtain ⟨q, h4, h5⟩ := h2
  refine ⟨q ++ r, ⟨q, r, rfl, h4, h1⟩, ⟨?_, fun x hx => ?_, Mem.le_trans h3.fr h5.fr⟩⟩
  · rw [List.map_append, List.nodup_append]
    refine ⟨h5.nd, h3.nd, fun a ha b hb e => ?_⟩
    obtain ⟨x, hx, rfl⟩ := List.mem_map.1 ha
    obtain ⟨y, hy, rfl⟩ := List.mem_map.1 hb
    have e1 := (h5.at_ x hx).2.1
    have e2 := (h3.at_ y hy).2.2
    rw [e, e2] at e1; cases e1
  · rcases List.mem_append.1 hx with hx | hx
    · obtain ⟨g1, g2, g3⟩ := h5.at_ x hx
      exact ⟨g1, le_none h3.fr g2, g3⟩
    · obtain ⟨g1, g2, g3⟩ := h3.at_ x hx
      exact ⟨g1, g2, h5.fr _ _ g3⟩
def bA (b : Nat) (cs : List Value) (e : TypeId) : cI := fun r => r = [(b, cs, e)]
theorem aA.bC {Q : cI} {b : Nat} {cs : List Value} {e : TypeId} (h : aA w0 F M (star (bA b cs e) Q)) : cS w0 M b cs e := by
  obtain ⟨r, ⟨r1, r2, rfl, h1, h2⟩, h3⟩ := h
  rw [h1] at h3
  exact h3.own List.mem_cons_self
theorem aA.lJ {Q : cI} {b : Nat} {cs cs' : List Value} {e e' : TypeId} (h : aA w0 F M (star (bA b cs e) Q)) : aA w0 F (M.set b (.row cs' e')) (star (bA b cs' e') Q) := by
  obtain ⟨r, ⟨r1, r2, rfl, h1, h2⟩, h3⟩ := h
  rw [h1] at h3
  exact ⟨_, ⟨[(b, cs', e')], r2, rfl, rfl, h2⟩, h3.upd⟩
theorem aA.dY {P Q S : cI} (h : aA w0 F M (star P (star Q S))) : aA w0 F M (star Q (star P S)) := by
  obtain ⟨r, ⟨r1, r2, rfl, h1, r3, r4, rfl, h2, h3⟩, h4⟩ := h
  refine ⟨r3 ++ (r1 ++ r4), ⟨r3, r1 ++ r4, rfl, h2, r1, r4, rfl, h1, h3⟩, h4.perm ?_⟩
  rw [← List.append_assoc, ← List.append_assoc]
  exact List.Perm.append_right _ List.perm_append_comm
theorem aA.last {P Q : cI} (h : aA w0 F M (star P Q)) : ∃ F', aA w0 F' M Q ∧ Mem.le F F' ∧ ∀ M' Q', aA w0 F' M' Q' → aA w0 F M' (star P Q') := by
  obtain ⟨F', h1, h2, h3⟩ := h.comm.aside
  exact ⟨F', h1, h2, fun M' Q' h' => (h3 M' Q' h').comm⟩
theorem aA.aKQ {P Q S : cI} (h : aA w0 F M (star P (star Q S))) : ∃ F', aA w0 F' M S ∧ Mem.le F F' ∧ ∀ M' S', aA w0 F' M' S' → aA w0 F M' (star P (star Q S')) := by
  obtain ⟨F', h1, h2, h3⟩ := (aA.assoc.2 h).last
  exact ⟨F', h1, h2, fun M' S' h' => aA.assoc.1 (h3 M' S' h')⟩
def pS (s : SV) (l : List Value) : cI := fun r => (s = ⟨none, 0, 0⟩ ∧ l = [] ∧ r = []) ∨ ∃ b rest e, s = ⟨some ⟨b, 0, none⟩, l.length, l.length + rest.length⟩ ∧ r = [(b, l ++ rest, e)]
theorem pS.nil : pS ⟨none, 0, 0⟩ [] [] := .inl ⟨rfl, rfl, rfl⟩
theorem pS.len {s : SV} {l : List Value} {r : Rws} (h : pS s l r) : s.n = l.length := by
  rcases h with ⟨rfl, rfl, _⟩ | ⟨b, rest, e, rfl, _⟩ <;> rfl
theorem pS.sl {s : SV} {l : List Value} {r q : Rws} (h : pS s l r) (hf : Fit w0 F M (r ++ q)) : Sl w0 (ext F q) M s l := by
  rcases h with ⟨rfl, rfl, _⟩ | ⟨b, rest, e, rfl, rfl⟩
  · exact Sl.nil
  · have := hf.aside.1
    have h1 := this.at_ (b, l ++ rest, e) (by simp)
    exact .inr ⟨b, rest, e, rfl, h1.2.1, h1.1, h1.2.2⟩
theorem Sl.fit {s : SV} {l : List Value} {q : Rws} {M1 : Mem} (h : Sl w0 (ext F q) M s l) (hq : Fit w0 F M1 q) (hl : Mem.le (ext F q) M) : ∃ r, pS s l r ∧ Fit w0 F M (r ++ q) := by
  have hF : ∀ x ∈ q, F x.1 = Option.none := fun x hx => (hq.at_ x hx).2.1
  have hM : ∀ x ∈ q, M x.1 = some (.row x.2.1 x.2.2) := fun x hx => hl _ _ (by
    unfold ext
    rw [aAR hq.nd hx])
  have hfit : Fit w0 F M q := ⟨hq.nd, fun x hx => ⟨(hq.at_ x hx).1, hF x hx, hM x hx⟩, Mem.le_trans (yN hF) hl⟩
  rcases h with ⟨rfl, rfl⟩ | ⟨b, rest, e, rfl, h1, h2⟩
  · exact ⟨[], .inl ⟨rfl, rfl, rfl⟩, hfit⟩
  · obtain ⟨h3, h4⟩ := wO.1 h1
    refine ⟨[(b, l ++ rest, e)], .inr ⟨b, rest, e, rfl, rfl⟩, ⟨?_, fun x hx => ?_, hfit.fr⟩⟩
    · simp only [List.cons_append, List.nil_append, List.map_cons, List.nodup_cons]
      refine ⟨fun hm => ?_, hq.nd⟩
      obtain ⟨x, hx, e⟩ := List.mem_map.1 hm
      exact h4 x hx e
    · rcases List.mem_cons.1 hx with rfl | hx
      · exact ⟨h2.1, h3, h2.2⟩
      · exact hfit.at_ x hx
end
end Go.Proofs.YtodobkbnmjgkdaaGreat.HL
