import Derived.Test.YtodobkbnmjgkdaaGreatPe16
set_option linter.unusedVariables false
set_option linter.unusedSimpArgs false
namespace Go.Proofs.YtodobkbnmjgkdaaGreat.HL
open Go.RowKit (Below)
section
variable {P : Program} {w0 : World} {M F : Mem}
theorem aKm {t ty e : TypeId} {i : TypeInfo} {z : Value} (ht : P.underlying t = some (.slice e)) (hi : P.info? e = some i) (hz : i.zero = some z) {b o n c : Nat} (hn : 0 < n) {cs : List Value} {e' : TypeId} {K : VP}
    (ho : cS w0 M b cs e') (hl : o + (iN z n).length ≤ cs.length) (hone : ∀ v ∈ iN z n, bS v = true) (hK : K (.tuple #[]) (M.set b (.row (eO cs o (iN z n)) e'))) :
    (aJ P w0).clr #[t] ty [.slice (some ⟨b, o, none⟩) n c] K M := by
  show act P w0 (Builtin.clear_ #[t] ty #[.slice (some ⟨b, o, none⟩) n c]) K M
  unfold Builtin.clear_
  obtain ⟨m, rfl⟩ : ∃ m, n = m + 1 := ⟨n - 1, by omega⟩
  simp only [List.getElem?_toArray, List.getElem?_cons_zero, cA (eP ht), bind_assoc, cA (rF hi hz)]
  refine uA (f := fun _ => pure (Value.tuple #[])) b (iN z (m + 1)) cs o 0 e' M ho.1 ho.2 (by simpa using hl) hone ?_
  simpa only [iP, Nat.add_zero] using hK
theorem dX.row {k : Nat} {s : SV} {l : List Value} {Q : cI} (h : aA w0 F M (star (dX k s l) Q)) (hn : 0 < s.n) : ∃ b rest e, s.a = some ⟨b, 0, none⟩ ∧ l.length = s.n * k ∧ l.length + rest.length = s.c * k ∧ aA w0 F M (star (bA b (l ++ rest) e) Q) := by
  obtain ⟨r, ⟨r1, r2, rfl, h1, h2⟩, h3⟩ := h
  rcases h1 with ⟨rfl, _, _⟩ | ⟨b, rest, e, e1, e2, e3, rfl⟩
  · simp at hn
  · exact ⟨b, rest, e, e1, e2, e3, _, ⟨[(b, l ++ rest, e)], r2, rfl, rfl, h2⟩, h3⟩
theorem dX.ofRow {k : Nat} {n c b : Nat} {l rest : List Value} {e : TypeId} {Q : cI} (h : aA w0 F M (star (bA b (l ++ rest) e) Q)) (h1 : l.length = n * k) (h2 : l.length + rest.length = c * k) : aA w0 F M (star (dX k ⟨some ⟨b, 0, none⟩, n, c⟩ l) Q) := by
  obtain ⟨r, ⟨r1, r2, rfl, g1, g2⟩, g3⟩ := h
  exact ⟨_, ⟨r1, r2, rfl, .inr ⟨b, rest, e, rfl, h1, h2, g1⟩, g2⟩, g3⟩
end
end Go.Proofs.YtodobkbnmjgkdaaGreat.HL
