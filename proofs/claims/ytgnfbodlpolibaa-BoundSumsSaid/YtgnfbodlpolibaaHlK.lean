/-
  HlK: slices of one's own whose elements are k cells each.
-/
import Derived.Test.YtgnfbodlpolibaaHlS
set_option linter.unusedVariables false
set_option linter.unusedSimpArgs false
namespace Go.Proofs.Ytgnfbodlpolibaa.HL
open Go.RowKit (Below)

section
variable {P : Program} {w0 : World} {M M' M0 : Mem}

def SlK (w0 : World) (M0 M : Mem) (k : Nat) (s : SV) (l : List Value) : Prop :=
  (s = ⟨none, 0, 0⟩ ∧ l = []) ∨ ∃ b rest e, s.a = some ⟨b, 0, none⟩ ∧ l.length = s.n * k ∧ l.length + rest.length = s.c * k ∧ M0 b = none ∧ Own w0 M b (l ++ rest) e
theorem SlK.nil {k : Nat} : SlK w0 M0 M k ⟨none, 0, 0⟩ [] := .inl ⟨rfl, rfl⟩
theorem SlK.len {k : Nat} {s : SV} {l : List Value} (h : SlK w0 M0 M k s l) : l.length = s.n * k := by
  rcases h with ⟨rfl, rfl⟩ | ⟨b, rest, e, _, h, _⟩
  · simp
  · exact h
theorem SlK.cells {k : Nat} {s : SV} {l : List Value} (h : SlK w0 M0 M k s l) : Cells w0 M s.a l := by
  rcases h with ⟨rfl, rfl⟩ | ⟨b, rest, e, ha, _, _, _, ho⟩
  · intro j v hj; simp at hj
  · rw [ha]
    exact Cells.own ho fun j v hj => by rw [Nat.zero_add, List.getElem?_append_left (List.getElem?_eq_some_iff.1 hj).1]; exact hj
theorem SlK.none {k : Nat} {s : SV} {l : List Value} (h : SlK w0 M0 M k s l) (hn : s.a = none) : s.n = 0 ∧ s.c = 0 := by
  rcases h with ⟨rfl, rfl⟩ | ⟨b, rest, e, ha, _⟩
  · exact ⟨rfl, rfl⟩
  · rw [ha] at hn; cases hn
theorem SlK.le {k : Nat} {M1 : Mem} {s : SV} {l : List Value} (h : SlK w0 M0 M k s l) (hl : Mem.le M M1) : SlK w0 M0 M1 k s l := by
  rcases h with h | ⟨b, rest, e, h1, h2, h3, h4, ho⟩
  · exact .inl h
  · exact .inr ⟨b, rest, e, h1, h2, h3, h4, ho.le hl⟩
theorem SlK.cap {k : Nat} (hk : 0 < k) {s : SV} {l : List Value} (h : SlK w0 M0 M k s l) : s.n ≤ s.c := by
  rcases h with ⟨rfl, rfl⟩ | ⟨b, rest, e, h1, h2, h3, _⟩
  · exact Nat.le_refl _
  · exact Nat.le_of_mul_le_mul_right (by omega) hk
/-- Its numbers, to be read. -/
theorem SlK.rdF {k : Nat} (hk : 0 < k) {s : SV} {l : List Int} (h : SlK w0 M0 M k s (l.map (Value.int .i64))) (hw : ∀ n ∈ l, (Lit.int .i64 n).wf = true) (hm : s.n ≤ 1000000) : RdF w0 M k s l := by
  have hcap := h.cap hk
  refine ⟨by have := h.len; simpa using this, hcap, by omega, fun j x hx => ?_, hw⟩
  rcases h with ⟨rfl, hl⟩ | ⟨b, rest, e, ha, h2, h3, h4, ho⟩
  · have : l = [] := by simpa using hl
    subst this; simp at hx
  · refine ⟨_, ha, fun M' hM => ?_⟩
    have hj := (List.getElem?_eq_some_iff.1 hx).1
    rw [add_eq, rd_own (ho.le hM), Nat.zero_add, List.getElem?_append_left (by simpa using hj), List.getElem?_map, hx]; rfl
theorem SlK.new {k n b : Nat} {cs : List Value} {e : TypeId} (h0 : M0 b = Option.none) (ho : Own w0 M b cs e) (hl : cs.length = n * k) : SlK w0 M0 M k ⟨some ⟨b, 0, Option.none⟩, n, n⟩ cs :=
  .inr ⟨b, [], e, rfl, hl, by simpa using hl, h0, by simpa using ho⟩

theorem app_slk {t ty e : TypeId} {z : Value} {k : Nat} (ht : P.underlying t = some (.slice e)) (he : ElemOk P e z k) {s x : SV} {l news : List Value} {K : Value → Mem → Prop} (hle : Mem.le M0 M) (hs : SlK w0 M0 M k s l)
    (hn : news.length = x.n * k) (hcn : Cells w0 M x.a news) (hnn : x.a = none → x.n = 0) (hone : ∀ v ∈ news, onecell v = true) (hk : 0 < k) (hb : s.n + x.n ≤ 137438953472)
    (h : ∀ M' s', Mem.le M0 M' → SlK w0 M0 M' k s' (l ++ news) → s'.n = s.n + x.n → K s'.v M') : (std P w0).app #[t, t] ty [s.v, x.v] K M := by
  obtain ⟨i, hi, hz, hsz, hzs, hb1, hb2⟩ := he
  refine app_ok ht hi hz (olds := l) (news := news) (by rw [hs.len, hsz]) hs.cells hs.none (by rw [hn, hsz]) hcn hnn hb1 ?_ ?_ ?_ ?_
  · exact Nat.le_trans (Nat.mul_le_mul hb hb2) (by decide)
  · intro ha hx0
    have h1 := hs.none ha
    have hl : l = [] := List.eq_nil_of_length_eq_zero (by rw [hs.len, h1.1]; simp)
    have hw : news = [] := List.eq_nil_of_length_eq_zero (by rw [hn, hx0]; simp)
    subst hl; subst hw
    exact h M ⟨_, 0, 0⟩ hle SlK.nil (by simp [h1.1, hx0])
  · intro a ha hfit
    rcases hs with ⟨rfl, _⟩ | ⟨b, rest, e', ha', h2, h3, h0, ho⟩
    · cases ha
    · rw [ha'] at ha
      cases ha
      have hfit' : (s.n + x.n) * k ≤ s.c * k := Nat.mul_le_mul_right k hfit
      rw [Nat.add_mul] at hfit'
      refine ⟨b, 0, l ++ rest, e', rfl, ho, by rw [hsz, List.length_append, Nat.add_mul]; omega, hone, ?_⟩
      have hr : l.length + news.length ≤ (l ++ rest).length := by rw [List.length_append]; omega
      have e1 : over (l ++ rest) (0 + s.n * i.size) news = (l ++ news) ++ rest.drop news.length := by
        rw [hsz, Nat.zero_add, ← h2]
        apply List.ext_getElem?
        intro j
        rw [over_get _ _ _ _ hr, List.getElem?_append, List.getElem?_append, List.length_append, List.getElem?_append]
        by_cases h1 : j < l.length
        · rw [if_pos h1, if_pos h1, if_pos (by omega), if_pos h1]
        · rw [if_neg h1]
          by_cases h2 : j < l.length + news.length
          · rw [if_pos h2, if_pos h2, if_neg h1]
          · rw [if_neg h2, if_neg h1, if_neg h2, List.getElem?_drop]; congr 1; omega
      rw [e1]
      refine h _ ⟨some ⟨b, 0, Option.none⟩, s.n + x.n, s.c⟩ (le_put hle h0) (.inr ⟨b, rest.drop news.length, e', rfl, ?_, ?_, h0, ho.upd⟩) rfl
      · show (l ++ news).length = (s.n + x.n) * k
        rw [List.length_append, Nat.add_mul]; omega
      · show (l ++ news).length + (rest.drop news.length).length = s.c * k
        rw [List.length_append] at hr ⊢
        rw [List.length_drop]; omega
  · intro hg b c hb0 hw0 hc
    refine h _ ⟨some ⟨b, 0, Option.none⟩, s.n + x.n, c⟩ (le_put hle (le_none hle hb0)) (.inr ⟨b, zeros z (c - (s.n + x.n)), e, rfl, ?_, ?_, le_none hle hb0, Own.new hw0⟩) rfl
    · show (l ++ news).length = (s.n + x.n) * k
      rw [List.length_append, Nat.add_mul, hs.len]; omega
    · show (l ++ news).length + (zeros z (c - (s.n + x.n))).length = c * k
      have hcc : (c - (s.n + x.n)) * k + (s.n + x.n) * k = c * k := by rw [← Nat.add_mul]; congr 1; omega
      rw [zeros_length, hzs, List.length_append, hs.len, hn]
      rw [Nat.add_mul] at hcc
      omega

end
end Go.Proofs.Ytgnfbodlpolibaa.HL
