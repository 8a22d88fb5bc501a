/-
  HlZ: what an argument's size bounds; a slice that grows no longer than such a one.
-/
import Derived.Test.YtoeijcmpkfjbfaaHlK
import Derived.Test.YtoeijcmpkfjbfaaHlR
import Derived.SizedLaws
set_option linter.unusedVariables false
set_option linter.unusedSimpArgs false
set_option maxRecDepth 100000
namespace Go.Proofs.Ytoeijcmpkfjbfaa.HL
open Go.RowKit (Below)
open Go.Proofs

section
variable {H : Type} {enc : TypeId × Value → H} {P : Program}
/-- How long a slice is that came in. -/
theorem sized_S {W : World} {t e : TypeId} {s : SV} {d : DataW H} {ps : List MemPlace} {ts : List TypeId} {ds : List (DataW H)} {j : Nat} (ht : P.underlying t = some (.slice e)) (h : DataW.Trod enc P W 0 (fun _ => true) true t (SV.v s) d ps)
    (hz : (DataW.weightsEach P ts ds).all (· ≤ reachBytes) = true) (h1 : ts[j]? = some t) (h2 : ds[j]? = some d) : s.n * P.bytesOf e ≤ reachBytes := by
  obtain ⟨fuel, hf⟩ := h
  rcases Go.Deep.open_slice ht hf with ⟨hcs, _⟩ | ⟨a, len, cap, m, n', D, Pl, hcs, _, hl, hm, hmm, hd, hx⟩
  · simp [Value.cells, SV.v] at hcs
    rw [hcs.2.1]; simp
  · simp [Value.cells, SV.v] at hcs
    obtain ⟨_, e1, e2⟩ := hcs
    have e3 : d = (.slice ((List.range len).map D) ((List.range (m - len)).map fun i => D (len + i)) : DataW H) := by
      exact congrArg Prod.fst hd
    subst e3
    have := sized_slice hz h1 h2 ht
    simp only [List.length_map, List.length_range] at this
    rw [e1]
    exact Nat.le_trans (Nat.mul_le_mul_right _ (by omega)) this
end

section
variable {w0 : World} {M M0 : Mem} {P : Program}
theorem app_slkB {t ty e : TypeId} {z : Value} {k : Nat} (ht : P.underlying t = some (.slice e)) (he : ElemOk P e z k) {s x : SV} {l news : List Value} {K : Value → Mem → Prop} (hle : Mem.le M0 M) (hs : SlK w0 M0 M k s l)
    (hn : news.length = x.n * k) (hcn : Cells w0 M x.a news) (hnn : x.a = none → x.n = 0) (hone : ∀ v ∈ news, onecell v = true) (hk : 0 < k) (hb : ∀ i, P.info? e = some i → (s.n + x.n) * i.bytes ≤ 140737488355328)
    (h : ∀ M' s', Mem.le M0 M' → SlK w0 M0 M' k s' (l ++ news) → s'.n = s.n + x.n → K s'.v M') : (std P w0).app #[t, t] ty [s.v, x.v] K M := by
  obtain ⟨i, hi, hz, hsz, hzs, hb1, hb2⟩ := he
  refine app_ok ht hi hz (olds := l) (news := news) (by rw [hs.len, hsz]) hs.cells hs.none (by rw [hn, hsz]) hcn hnn hb1 ?_ ?_ ?_ ?_
  · exact hb i hi
  · intro ha hx0
    have h1 := hs.none ha
    have hl : l = [] := List.eq_nil_of_length_eq_zero (by rw [hs.len, h1.1]; simp)
    have hw : news = [] := List.eq_nil_of_length_eq_zero (by rw [hn, hx0]; simp)
    subst hl; subst hw
    exact h M ⟨_, 0, 0⟩ hle SlK.nil (by simp [h1.1, hx0])
  · intro a ha hfit
    rcases hs with ⟨rfl, _⟩ | ⟨b, rest, e', ha', h2, h3, h0, ho⟩
    · cases ha
    · rw [ha'] at ha
      cases ha
      have hfit' : (s.n + x.n) * k ≤ s.c * k := Nat.mul_le_mul_right k hfit
      rw [Nat.add_mul] at hfit'
      refine ⟨b, 0, l ++ rest, e', rfl, ho, by rw [hsz, List.length_append, Nat.add_mul]; omega, hone, ?_⟩
      have hr : l.length + news.length ≤ (l ++ rest).length := by rw [List.length_append]; omega
      have e1 : over (l ++ rest) (0 + s.n * i.size) news = (l ++ news) ++ rest.drop news.length := by
        rw [hsz, Nat.zero_add, ← h2]
        apply List.ext_getElem?
        intro j
        rw [over_get _ _ _ _ hr, List.getElem?_append, List.getElem?_append, List.length_append, List.getElem?_append]
        by_cases h1 : j < l.length
        · rw [if_pos h1, if_pos h1, if_pos (by omega), if_pos h1]
        · rw [if_neg h1]
          by_cases h2 : j < l.length + news.length
          · rw [if_pos h2, if_pos h2, if_neg h1]
          · rw [if_neg h2, if_neg h1, if_neg h2, List.getElem?_drop]; congr 1; omega
      rw [e1]
      refine h _ ⟨some ⟨b, 0, Option.none⟩, s.n + x.n, s.c⟩ (le_put hle h0) (.inr ⟨b, rest.drop news.length, e', rfl, ?_, ?_, h0, ho.upd⟩) rfl
      · show (l ++ news).length = (s.n + x.n) * k
        rw [List.length_append, Nat.add_mul]; omega
      · show (l ++ news).length + (rest.drop news.length).length = s.c * k
        rw [List.length_append] at hr ⊢
        rw [List.length_drop]; omega
  · intro hg b c hb0 hw0 hc
    refine h _ ⟨some ⟨b, 0, Option.none⟩, s.n + x.n, c⟩ (le_put hle (le_none hle hb0)) (.inr ⟨b, zeros z (c - (s.n + x.n)), e, rfl, ?_, ?_, le_none hle hb0, Own.new hw0⟩) rfl
    · show (l ++ news).length = (s.n + x.n) * k
      rw [List.length_append, Nat.add_mul, hs.len]; omega
    · show (l ++ news).length + (zeros z (c - (s.n + x.n))).length = c * k
      have hcc : (c - (s.n + x.n)) * k + (s.n + x.n) * k = c * k := by rw [← Nat.add_mul]; congr 1; omega
      rw [zeros_length, hzs, List.length_append, hs.len, hn]
      rw [Nat.add_mul] at hcc
      omega

end
end Go.Proofs.Ytoeijcmpkfjbfaa.HL
