import Derived.Test.YtodobkbnmjgkdaaGreatPe14
set_option linter.unusedVariables false
set_option linter.unusedSimpArgs false
namespace Go.Proofs.YtodobkbnmjgkdaaGreat.HL
open Go.RowKit (Below)
section
variable {P : Program} {w0 : World} {M M' M0 : Mem}
def wE (w0 : World) (M0 M : Mem) (k : Nat) (s : SV) (l : List Value) : Prop :=
  (s = ⟨none, 0, 0⟩ ∧ l = []) ∨ ∃ b rest e, s.a = some ⟨b, 0, none⟩ ∧ l.length = s.n * k ∧ l.length + rest.length = s.c * k ∧ M0 b = none ∧ cS w0 M b (l ++ rest) e
theorem wE.nil {k : Nat} : wE w0 M0 M k ⟨none, 0, 0⟩ [] := .inl ⟨rfl, rfl⟩
theorem wE.len {k : Nat} {s : SV} {l : List Value} (h : wE w0 M0 M k s l) : l.length = s.n * k := by
  rcases h with ⟨rfl, rfl⟩ | ⟨b, rest, e, _, h, _⟩
  · simp
  · exact h
theorem wE.cells {k : Nat} {s : SV} {l : List Value} (h : wE w0 M0 M k s l) : gW w0 M s.a l := by
  rcases h with ⟨rfl, rfl⟩ | ⟨b, rest, e, ha, _, _, _, ho⟩
  · intro j v hj; simp at hj
  · rw [ha]
    exact gW.own ho fun j v hj => by rw [Nat.zero_add, List.getElem?_append_left (List.getElem?_eq_some_iff.1 hj).1]; exact hj
theorem wE.none {k : Nat} {s : SV} {l : List Value} (h : wE w0 M0 M k s l) (hn : s.a = none) : s.n = 0 ∧ s.c = 0 := by
  rcases h with ⟨rfl, rfl⟩ | ⟨b, rest, e, ha, _⟩
  · exact ⟨rfl, rfl⟩
  · rw [ha] at hn; cases hn
theorem wE.le {k : Nat} {M1 : Mem} {s : SV} {l : List Value} (h : wE w0 M0 M k s l) (hl : Mem.le M M1) : wE w0 M0 M1 k s l := by
  rcases h with h | ⟨b, rest, e, h1, h2, h3, h4, ho⟩
  · exact .inl h
  · exact .inr ⟨b, rest, e, h1, h2, h3, h4, ho.le hl⟩
theorem wE.cap {k : Nat} (hk : 0 < k) {s : SV} {l : List Value} (h : wE w0 M0 M k s l) : s.n ≤ s.c := by
  rcases h with ⟨rfl, rfl⟩ | ⟨b, rest, e, h1, h2, h3, _⟩
  · exact Nat.le_refl _
  · exact Nat.le_of_mul_le_mul_right (by omega) hk
theorem wE.new {k n b : Nat} {cs : List Value} {e : TypeId} (h0 : M0 b = Option.none) (ho : cS w0 M b cs e) (hl : cs.length = n * k) : wE w0 M0 M k ⟨some ⟨b, 0, Option.none⟩, n, n⟩ cs :=
  .inr ⟨b, [], e, rfl, hl, by simpa using hl, h0, by simpa using ho⟩
theorem aAM {t ty e : TypeId} {z : Value} {k : Nat} (ht : P.underlying t = some (.slice e)) (he : jU P e z k) {s x : SV} {l news : List Value} {K : VP} (hle : Mem.le M0 M) (hs : wE w0 M0 M k s l)
    (hn : news.length = x.n * k) (hcn : gW w0 M x.a news) (hnn : x.a = none → x.n = 0) (hone : ∀ v ∈ news, bS v = true) (hk : 0 < k) (hb : s.n + x.n ≤ 137438953472)
    (h : ∀ M' s', Mem.le M0 M' → wE w0 M0 M' k s' (l ++ news) → s'.n = s.n + x.n → K s'.v M') : (aJ P w0).app #[t, t] ty [s.v, x.v] K M := by
  obtain ⟨i, hi, hz, hsz, hzs, hb1, hb2⟩ := he
  refine aEP ht hi hz (olds := l) (news := news) (by rw [hs.len, hsz]) hs.cells hs.none (by rw [hn, hsz]) hcn hnn hb1 ?_ ?_ ?_ ?_
  · exact Nat.le_trans (Nat.mul_le_mul hb hb2) (by decide)
  · intro ha hx0
    have h1 := hs.none ha
    have hl : l = [] := List.eq_nil_of_length_eq_zero (by rw [hs.len, h1.1]; simp)
    have hw : news = [] := List.eq_nil_of_length_eq_zero (by rw [hn, hx0]; simp)
    subst hl; subst hw
    exact h M ⟨_, 0, 0⟩ hle wE.nil (by simp [h1.1, hx0])
  · intro a ha hfit
    rcases hs with ⟨rfl, _⟩ | ⟨b, rest, e', ha', h2, h3, h0, ho⟩
    · cases ha
    · rw [ha'] at ha
      cases ha
      have hfit' : (s.n + x.n) * k ≤ s.c * k := Nat.mul_le_mul_right k hfit
      rw [Nat.add_mul] at hfit'
      refine ⟨b, 0, l ++ rest, e', rfl, ho, by rw [hsz, List.length_append, Nat.add_mul]; omega, hone, ?_⟩
      have hr : l.length + news.length ≤ (l ++ rest).length := by rw [List.length_append]; omega
      have e1 : eO (l ++ rest) (0 + s.n * i.size) news = (l ++ news) ++ rest.drop news.length := by
        rw [hsz, Nat.zero_add, ← h2]
        apply List.ext_getElem?
        intro j
        rw [xH _ _ _ _ hr, List.getElem?_append, List.getElem?_append, List.length_append, List.getElem?_append]
        by_cases h1 : j < l.length
        · rw [if_pos h1, if_pos h1, if_pos (by omega), if_pos h1]
        · rw [if_neg h1]
          by_cases h2 : j < l.length + news.length
          · rw [if_pos h2, if_pos h2, if_neg h1]
          · rw [if_neg h2, if_neg h1, if_neg h2, List.getElem?_drop]; congr 1; omega
      rw [e1]
      refine h _ ⟨some ⟨b, 0, Option.none⟩, s.n + x.n, s.c⟩ (xE hle h0) (.inr ⟨b, rest.drop news.length, e', rfl, ?_, ?_, h0, ho.upd⟩) rfl
      · show (l ++ news).length = (s.n + x.n) * k
        rw [List.length_append, Nat.add_mul]; omega
      · show (l ++ news).length + (rest.drop news.length).length = s.c * k
        rw [List.length_append] at hr ⊢
        rw [List.length_drop]; omega
  · intro hg b c hb0 hw0 hc
    refine h _ ⟨some ⟨b, 0, Option.none⟩, s.n + x.n, c⟩ (xE hle (le_none hle hb0)) (.inr ⟨b, iN z (c - (s.n + x.n)), e, rfl, ?_, ?_, le_none hle hb0, cS.new hw0⟩) rfl
    · show (l ++ news).length = (s.n + x.n) * k
      rw [List.length_append, Nat.add_mul, hs.len]; omega
    · show (l ++ news).length + (iN z (c - (s.n + x.n))).length = c * k
      have hcc : (c - (s.n + x.n)) * k + (s.n + x.n) * k = c * k := by rw [← Nat.add_mul]; congr 1; omega
      rw [pM, hzs, List.length_append, hs.len, hn]
      rw [Nat.add_mul] at hcc
      omega
variable {F : Mem}
def dX (k : Nat) (s : SV) (l : List Value) : cI := fun r => (s = ⟨none, 0, 0⟩ ∧ l = [] ∧ r = []) ∨ ∃ b rest e, s.a = some ⟨b, 0, none⟩ ∧ l.length = s.n * k ∧ l.length + rest.length = s.c * k ∧ r = [(b, l ++ rest, e)]
theorem dX.slk {k : Nat} {s : SV} {l : List Value} {r q : Rws} (h : dX k s l r) (hf : Fit w0 F M (r ++ q)) : wE w0 (ext F q) M k s l := by
  rcases h with ⟨rfl, rfl, _⟩ | ⟨b, rest, e, h1, h2, h3, rfl⟩
  · exact wE.nil
  · have := hf.aside.1
    have h4 := this.at_ (b, l ++ rest, e) (by simp)
    exact .inr ⟨b, rest, e, h1, h2, h3, h4.2.1, h4.1, h4.2.2⟩
theorem wE.fit {k : Nat} {s : SV} {l : List Value} {q : Rws} {M1 : Mem} (h : wE w0 (ext F q) M k s l) (hq : Fit w0 F M1 q) (hl : Mem.le (ext F q) M) : ∃ r, dX k s l r ∧ Fit w0 F M (r ++ q) := by
  have hF : ∀ x ∈ q, F x.1 = Option.none := fun x hx => (hq.at_ x hx).2.1
  have hM : ∀ x ∈ q, M x.1 = some (.row x.2.1 x.2.2) := fun x hx => hl _ _ (by
    unfold ext
    rw [aAR hq.nd hx])
  have hfit : Fit w0 F M q := ⟨hq.nd, fun x hx => ⟨(hq.at_ x hx).1, hF x hx, hM x hx⟩, Mem.le_trans (yN hF) hl⟩
  rcases h with ⟨rfl, rfl⟩ | ⟨b, rest, e, h1, h2, h3, h4, h5⟩
  · exact ⟨[], .inl ⟨rfl, rfl, rfl⟩, hfit⟩
  · obtain ⟨h6, h7⟩ := wO.1 h4
    refine ⟨[(b, l ++ rest, e)], .inr ⟨b, rest, e, h1, h2, h3, rfl⟩, ⟨?_, fun x hx => ?_, hfit.fr⟩⟩
    · simp only [List.cons_append, List.nil_append, List.map_cons, List.nodup_cons]
      refine ⟨fun hm => ?_, hq.nd⟩
      obtain ⟨x, hx, e⟩ := List.mem_map.1 hm
      exact h7 x hx e
    · rcases List.mem_cons.1 hx with rfl | hx
      · exact ⟨h5.1, h6, h5.2⟩
      · exact hfit.at_ x hx
theorem aA.slk {k : Nat} {s : SV} {l : List Value} {Q : cI} (h : aA w0 F M (star (dX k s l) Q)) : ∃ F', wE w0 F' M k s l ∧ Mem.le F' M ∧ ∀ M' s' l', wE w0 F' M' k s' l' → Mem.le F' M' → aA w0 F M' (star (dX k s' l') Q) := by
  obtain ⟨r, ⟨r1, r2, rfl, h1, h2⟩, h3⟩ := h
  refine ⟨ext F r2, h1.slk h3, h3.aside.1.fr, fun M' s' l' hs hl => ?_⟩
  obtain ⟨r', h4, h5⟩ := wE.fit hs ((h3.perm List.perm_append_comm).drop) hl
  exact ⟨_, ⟨r', r2, rfl, h4, h2⟩, h5⟩
theorem aA.tV {k : Nat} {Q : cI} {M' : Mem} {s : SV} {l : List Value} (h : aA w0 F M Q) (hl : Mem.le M M') (hs : wE w0 M M' k s l) : aA w0 F M' (star (dX k s l) Q) := by
  refine h.beside ?_
  rcases hs with ⟨rfl, rfl⟩ | ⟨b, rest, e, h1, h2, h3, h4, h5⟩
  · exact ⟨[], .inl ⟨rfl, rfl, rfl⟩, Fit.nil hl⟩
  · refine ⟨[(b, l ++ rest, e)], .inr ⟨b, rest, e, h1, h2, h3, rfl⟩, ⟨by simp, fun x hx => ?_, hl⟩⟩
    simp at hx; subst hx
    exact ⟨h5.1, h4, h5.2⟩
theorem aA.oB {k : Nat} {Q : cI} (h : aA w0 F M Q) : aA w0 F M (star (dX k ⟨none, 0, 0⟩ []) Q) := by
  obtain ⟨r, h1, h2⟩ := h
  exact ⟨r, ⟨[], r, rfl, .inl ⟨rfl, rfl, rfl⟩, h1⟩, h2⟩
theorem aA.freeze {Q : cI} {s : SV} {l : List Int} (h : aA w0 F M (star (pS s (l.map (Value.int .i64))) Q)) (hw : ∀ n ∈ l, (Lit.int .i64 n).wf = true) (hm : l.length ≤ 1000000) : ∃ F', Mem.le F F' ∧ aA w0 F' M Q ∧ qO w0 F' .i64 s l := by
  obtain ⟨r, ⟨r1, r2, rfl, h1, h2⟩, h3⟩ := h
  have h4 := h3.perm List.perm_append_comm
  have h5 := h4.aside.1
  have hF : ∀ x ∈ r1, F x.1 = Option.none := fun x hx => (h3.at_ x (List.mem_append_left _ hx)).2.1
  refine ⟨ext F r1, yN hF, ⟨r2, h2, h5⟩, ?_⟩
  have hs : Sl w0 F (ext F r1) s (l.map (Value.int .i64)) := by
    rcases h1 with ⟨rfl, hl, _⟩ | ⟨b, rest, e, e1, rfl⟩
    · rw [hl]; exact Sl.nil
    · have h6 := h3.at_ (b, l.map (Value.int .i64) ++ rest, e) (by simp)
      refine .inr ⟨b, rest, e, e1, h6.2.1, h6.1, ?_⟩
      unfold ext
      simp
  exact hs.rdI hw (by omega)
theorem stK {t : TypeId} (ht : iF P t = true) {k : Nat} {s : SV} {l : List Value} {Q : cI} (h : aA w0 F M (star (dX k s l) Q)) {i : Int} (j : Nat) (e : i = (j : Int)) (hj : j < s.n) {f : Nat} (hf : f < k) {v : Value} (hv : bS v = true) (hc : v.cells = #[v]) {K : Mem → Prop}
    (hK : ∀ M', aA w0 F M' (star (dX k s (l.set (j * k + f) v)) Q) → K M') : nc s.a fun a => (0 ≤ i ∧ i < ((s.n : Nat) : Int)) ∧ (aJ P w0).st t (Addr.add (a.add (i.toNat * k)) f) v (fun M' => K M') M := by
  subst e
  obtain ⟨F', hs, hle, back⟩ := h.slk
  have hlen := hs.len
  have hlt : j * k + f < l.length := by
    rw [hlen]
    have : (j + 1) * k ≤ s.n * k := Nat.mul_le_mul_right k hj
    rw [Nat.succ_mul] at this; omega
  rcases hs with ⟨rfl, rfl⟩ | ⟨b, rest, e, ha, h2, h3, h0, ho⟩
  · simp at hlt
  · rw [ha]
    simp only [aT]
    refine ⟨⟨by omega, by omega⟩, ?_⟩
    rw [Int.toNat_natCast, add_add, add_eq, Nat.zero_add]
    refine gO ht ho (by rw [List.length_append]; omega) hv hc ?_
    refine hK _ (back _ s _ (.inr ⟨b, rest, e, ha, by simpa using h2, by simpa using h3, h0, ?_⟩) (xE hle h0))
    rw [← List.set_append_left _ _ hlt]
    exact ho.upd
theorem aLk {t : TypeId} (ht : iF P t = true) {k : Nat} {s : SV} {l : List Value} {Q : cI} (h : aA w0 F M (star (dX k s l) Q)) {i : Int} (j : Nat) (e : i = (j : Int)) (hj : j < s.n) (hk : 0 < k) {v : Value} (hv : bS v = true) (hc : v.cells = #[v]) {K : Mem → Prop}
    (hK : ∀ M', aA w0 F M' (star (dX k s (l.set (j * k) v)) Q) → K M') : nc s.a fun a => (0 ≤ i ∧ i < ((s.n : Nat) : Int)) ∧ (aJ P w0).st t (a.add (i.toNat * k)) v (fun M' => K M') M := by
  have := stK (f := 0) ht h j e hj hk hv hc hK
  have e0 : ∀ a : Addr, Addr.add (a.add (i.toNat * k)) 0 = a.add (i.toNat * k) := fun a => by rw [add_add, Nat.add_zero]
  simpa only [e0] using this
theorem st1 {t : TypeId} (ht : iF P t = true) {s : SV} {l : List Value} {Q : cI} (h : aA w0 F M (star (pS s l) Q)) {i : Int} (j : Nat) (e : i = (j : Int)) (hj : j < l.length) {v : Value} (hv : bS v = true) (hc : v.cells = #[v]) {K : Mem → Prop}
    (hK : ∀ M', aA w0 F M' (star (pS s (l.set j v)) Q) → K M') : nc s.a fun a => (0 ≤ i ∧ i < ((s.n : Nat) : Int)) ∧ (aJ P w0).st t (a.add (i.toNat * 1)) v (fun M' => K M') M := by
  obtain ⟨r, ⟨r1, r2, rfl, h1, h2⟩, h3⟩ := h
  have hs := h1.sl h3
  refine stx ht hs h3.aside.1.fr j e hj hv hc fun M' hl hs' => hK M' ?_
  obtain ⟨r', h4, h5⟩ := Sl.fit hs' ((h3.perm List.perm_append_comm).drop) hl
  exact ⟨_, ⟨r', r2, rfl, h4, h2⟩, h5⟩
end
end Go.Proofs.YtodobkbnmjgkdaaGreat.HL
