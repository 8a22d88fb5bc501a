/-
  Put together of many texts: HlA HlB HlC HlD HlE HlF HlH HlI HlS HlK HlX PoM OrM EnM HlL HlG GenId GenW Gen0 Gen1 Gen2 Gen3 Gen4 Gen5 Gen6 Gen7 Gen8 Gen9 Gen10 Gen11 Gen12 BkA OrA HlQ CmA EnA EnB MdA MdB EnC JuM MdS MpA JuA JuB JuC JuD JuE JuF JuG JuH DrM JuI BlM BiA BuA OrD OrE OrF JuJ FlA LmB JuK JuL JuN PoA PoB PoC DrA DrB DrC DrD DrL JuP JuQ JuR JuS JuT JuU HlR.
-/
import Derived.Test.YtedofpnjmnkedaaP9
set_option linter.unusedVariables false
set_option linter.unusedSimpArgs false
namespace Go.Proofs.Ytedofpnjmnkedaa.HL
open Go.RowKit (Below)
section
variable {P : Program} {w0 : World} {M F : Mem}
theorem clr1_ok {t ty e : TypeId} {i : TypeInfo} {z : Value} (ht : P.underlying t = some (.slice e)) (hi : P.info? e = some i) (hz : i.zero = some z) {b o n c : Nat} (hn : 0 < n) {cs : List Value} {e' : TypeId} {K : VP}
    (ho : Own w0 M b cs e') (hl : o + (zeros z n).length ≤ cs.length) (hone : ∀ v ∈ zeros z n, onecell v = true) (hK : K (.tuple #[]) (M.set b (.row (over cs o (zeros z n)) e'))) :
    (std P w0).clr #[t] ty [.slice (some ⟨b, o, none⟩) n c] K M := by
  show act P w0 (Builtin.clear_ #[t] ty #[.slice (some ⟨b, o, none⟩) n c]) K M
  unfold Builtin.clear_
  obtain ⟨m, rfl⟩ : ∃ m, n = m + 1 := ⟨n - 1, by omega⟩
  simp only [List.getElem?_toArray, List.getElem?_cons_zero, peek_act (peek_under ht), bind_assoc, peek_act (peek_zero hi hz)]
  refine act_cells (f := fun _ => pure (Value.tuple #[])) b (zeros z (m + 1)) cs o 0 e' M ho.1 ho.2 (by simpa using hl) hone ?_
  simpa only [act_pure, Nat.add_zero] using hK
theorem SlKA.row {k : Nat} {s : SV} {l : List Value} {Q : Asn} (h : Holds w0 F M (star (SlKA k s l) Q)) (hn : 0 < s.n) : ∃ b rest e, s.a = some ⟨b, 0, none⟩ ∧ l.length = s.n * k ∧ l.length + rest.length = s.c * k ∧ Holds w0 F M (star (row1 b (l ++ rest) e) Q) := by
  obtain ⟨r, ⟨r1, r2, rfl, h1, h2⟩, h3⟩ := h
  rcases h1 with ⟨rfl, _, _⟩ | ⟨b, rest, e, e1, e2, e3, rfl⟩
  · simp at hn
  · exact ⟨b, rest, e, e1, e2, e3, _, ⟨[(b, l ++ rest, e)], r2, rfl, rfl, h2⟩, h3⟩
theorem SlKA.ofRow {k : Nat} {n c b : Nat} {l rest : List Value} {e : TypeId} {Q : Asn} (h : Holds w0 F M (star (row1 b (l ++ rest) e) Q)) (h1 : l.length = n * k) (h2 : l.length + rest.length = c * k) : Holds w0 F M (star (SlKA k ⟨some ⟨b, 0, none⟩, n, c⟩ l) Q) := by
  obtain ⟨r, ⟨r1, r2, rfl, g1, g2⟩, g3⟩ := h
  exact ⟨_, ⟨r1, r2, rfl, .inr ⟨b, rest, e, rfl, h1, h2, g1⟩, g2⟩, g3⟩
theorem over_behind (A B vs : List Value) (hv : vs.length ≤ B.length) : over (A ++ B) A.length vs = A ++ over B 0 vs := by
  apply List.ext_getElem?
  intro j
  rw [over_get _ _ _ _ (by rw [List.length_append]; omega), List.getElem?_append (l₁ := A) (l₂ := B), List.getElem?_append (l₁ := A) (l₂ := over B 0 vs), over_get _ _ _ _ (by omega)]
  by_cases hj : j < A.length
  · simp only [hj, if_true]
  · have e0 : ¬ (j - A.length < 0) := by omega
    by_cases hj2 : j < A.length + vs.length
    · have e1 : j - A.length < 0 + vs.length := by omega
      simp only [hj, hj2, e0, e1, if_false, if_true, Nat.sub_zero]
    · have e1 : ¬ (j - A.length < 0 + vs.length) := by omega
      simp only [hj, hj2, e0, e1, if_false]
theorem del_core {t ty e : TypeId} {z : Value} {k : Nat} (ht : P.underlying t = some (.slice e)) (he : ElemOk P e z k) (hk : 0 < k) {s : SV} {l : List Value} {Q : Asn} (h : Holds w0 F M (star (SlKA k s l) Q)) {i : Nat} (hi : i < s.n) (hone : ∀ v ∈ l, onecell v = true) (hzone : ∀ v ∈ zeros z 1, onecell v = true)
    (hb : s.n ≤ 1000000) {K : VP} (hK : ∀ M' s', Holds w0 F M' (star (SlKA k s' (l.take (i * k) ++ l.drop ((i + 1) * k))) Q) → s'.n = s.n - 1 → K s'.v M') :
    (std P w0).app #[t, t] t [.slice (if s.c = (0 : Int).toNat then s.a else s.a.map (·.add ((0 : Int).toNat * k))) ((i : Int).toNat - (0 : Int).toNat) (s.c - (0 : Int).toNat), .slice (if s.c = ((i + 1 : Nat) : Int).toNat then s.a else s.a.map (·.add (((i + 1 : Nat) : Int).toNat * k))) (((s.n : Nat) : Int).toNat - ((i + 1 : Nat) : Int).toNat) (s.c - ((i + 1 : Nat) : Int).toNat)]
      (fun v1 M2 => shS v1 fun s3 => (0 ≤ ((s3.n : Nat) : Int) ∧ ((s3.n : Nat) : Int) ≤ ((s.n : Nat) : Int) ∧ ((s.n : Nat) : Int) ≤ ((s3.c : Nat) : Int)) ∧ (std P w0).clr #[t] ty [.slice (if s3.c = ((s3.n : Nat) : Int).toNat then s3.a else s3.a.map (·.add (((s3.n : Nat) : Int).toNat * k))) (((s.n : Nat) : Int).toNat - ((s3.n : Nat) : Int).toNat) (s3.c - ((s3.n : Nat) : Int).toNat)] (fun v4 M5 => K (SV.v s3) M5) M2) M := by
  obtain ⟨inf, hi', hz, hsz, hzs, hb1, hb2⟩ := he
  obtain ⟨b, rest, e', ha, h1, h2, hR⟩ := SlKA.row h (by omega)
  have ho := Holds.own1 hR
  have hsc : s.n ≤ s.c := by
    apply Decidable.byContradiction
    intro hc
    have : (s.c + 1) * k ≤ s.n * k := Nat.mul_le_mul_right k (by omega)
    rw [Nat.succ_mul] at this
    omega
  have m1 : (i + 1) * k ≤ s.n * k := Nat.mul_le_mul_right k (by omega)
  have m2 : s.n * k ≤ s.c * k := Nat.mul_le_mul_right k hsc
  have m3 : i * k + k = (i + 1) * k := by rw [Nat.succ_mul]
  have m4 : (s.n - (i + 1)) * k + (i + 1) * k = s.n * k := by rw [← Nat.add_mul]; congr 1; omega
  have m5 : (s.n - 1) * k + k = s.n * k := by
    have : (s.n - 1) * k + 1 * k = s.n * k := by rw [← Nat.add_mul]; congr 1; omega
    simpa using this
  have adz : ∀ a : Addr, a.add 0 = a := fun a => by simp [Addr.add]
  have ea1 : (if s.c = (0 : Int).toNat then s.a else s.a.map (·.add ((0 : Int).toNat * k))) = some ⟨b, 0, none⟩ := by
    rw [ha]; split
    · rfl
    · simp [adz]
  obtain ⟨x, hx⟩ : ∃ x : SV, x = ⟨if s.c = ((i + 1 : Nat) : Int).toNat then s.a else s.a.map (·.add (((i + 1 : Nat) : Int).toNat * k)), s.n - (i + 1), s.c - (i + 1)⟩ := ⟨_, rfl⟩
  have e0 : (0 : Int).toNat = 0 := rfl
  have hxn : x.n = s.n - (i + 1) := by rw [hx]
  have hcx : Cells w0 M x.a (l.drop ((i + 1) * k)) := fun j v hj => by
    have hjl := (List.getElem?_eq_some_iff.1 hj).1
    rw [List.length_drop] at hjl
    have hne : ¬ s.c = ((i + 1 : Nat) : Int).toNat := by
      rw [Int.toNat_natCast]
      intro hc
      rw [hc] at m2; omega
    refine ⟨⟨b, (i + 1) * k, none⟩, ?_, ?_⟩
    · rw [hx]
      show (if s.c = ((i + 1 : Nat) : Int).toNat then s.a else _) = _
      rw [if_neg hne, ha, Int.toNat_natCast]
      simp [add_eq]
    · rw [add_eq, rd_own ho]
      rw [List.getElem?_drop] at hj
      rw [List.getElem?_append_left (by omega)]
      exact hj
  have key := app_ok (P := P) (w0 := w0) (M := M) (t := t) (ty := t) ht hi' hz (s := ⟨some ⟨b, 0, none⟩, i, s.c⟩) (x := x) (olds := l.take (i * k)) (news := l.drop ((i + 1) * k))
    (K := fun v1 M2 => shS v1 fun s3 => (0 ≤ ((s3.n : Nat) : Int) ∧ ((s3.n : Nat) : Int) ≤ ((s.n : Nat) : Int) ∧ ((s.n : Nat) : Int) ≤ ((s3.c : Nat) : Int)) ∧ (std P w0).clr #[t] ty [.slice (if s3.c = ((s3.n : Nat) : Int).toNat then s3.a else s3.a.map (·.add (((s3.n : Nat) : Int).toNat * k))) (((s.n : Nat) : Int).toNat - ((s3.n : Nat) : Int).toNat) (s3.c - ((s3.n : Nat) : Int).toNat)] (fun v4 M5 => K (SV.v s3) M5) M2)
    (by rw [List.length_take, hsz]; show min (i * k) l.length = i * k; omega)
    (fun j v hj => ⟨⟨b, 0, none⟩, rfl, by
      have hjl := (List.getElem?_eq_some_iff.1 hj).1
      rw [List.length_take] at hjl
      rw [List.getElem?_take_of_lt (by omega)] at hj
      rw [add_eq, rd_own ho, Nat.zero_add, List.getElem?_append_left (by omega)]
      exact hj⟩)
    (fun hn => by cases hn) (by rw [List.length_drop, hsz, hxn]; omega) hcx (fun hn => ?_) hb1 ?_ (fun hn => by cases hn) (fun a ha2 hfit => ?_) (fun hgrow => ?_)
  · have e1 : [Value.slice (if s.c = (0 : Int).toNat then s.a else s.a.map (·.add ((0 : Int).toNat * k))) ((i : Int).toNat - (0 : Int).toNat) (s.c - (0 : Int).toNat), .slice (if s.c = ((i + 1 : Nat) : Int).toNat then s.a else s.a.map (·.add (((i + 1 : Nat) : Int).toNat * k))) (((s.n : Nat) : Int).toNat - ((i + 1 : Nat) : Int).toNat) (s.c - ((i + 1 : Nat) : Int).toNat)] = [SV.v ⟨some ⟨b, 0, none⟩, i, s.c⟩, x.v] := by
      rw [ea1, hx, e0, Int.toNat_natCast, Int.toNat_natCast, Int.toNat_natCast]; rfl
    rw [e1]; exact key
  · rw [hx] at hn
    simp only at hn
    split at hn
    · rw [ha] at hn; cases hn
    · rw [ha] at hn; cases hn
  · show (i + x.n) * inf.bytes ≤ _
    have : i + x.n ≤ 1000000 := by rw [hxn]; omega
    exact Nat.le_trans (Nat.mul_le_mul this hb2) (by decide)
  · cases ha2
    have hol : over (l ++ rest) (i * k) (l.drop ((i + 1) * k)) = (l.take (i * k) ++ l.drop ((i + 1) * k)) ++ (l ++ rest).drop ((s.n - 1) * k) := by
      apply List.ext_getElem?
      intro j
      have hlen : i * k + (l.drop ((i + 1) * k)).length ≤ (l ++ rest).length := by rw [List.length_drop, List.length_append]; omega
      have hA : (l.take (i * k)).length = i * k := by rw [List.length_take]; omega
      have hB : (l.drop ((i + 1) * k)).length = (s.n - 1) * k - i * k := by rw [List.length_drop]; omega
      have hAB : (l.take (i * k) ++ l.drop ((i + 1) * k)).length = (s.n - 1) * k := by rw [List.length_append, hA, hB]; omega
      rw [over_get _ _ _ _ hlen, hB, List.getElem?_append (l₁ := l.take (i * k) ++ l.drop ((i + 1) * k)), hAB, List.getElem?_append (l₁ := l.take (i * k)), hA]
      by_cases h1 : j < i * k
      · rw [if_pos h1, if_pos (by omega), if_pos h1, List.getElem?_take_of_lt h1, List.getElem?_append_left (by omega)]
      · rw [if_neg h1]
        by_cases h2 : j < (s.n - 1) * k
        · rw [if_pos (by omega), if_pos h2, if_neg h1]
        · rw [if_neg (by omega), if_neg h2, List.getElem?_drop]
          congr 1; omega
    refine ⟨b, 0, l ++ rest, e', rfl, ho, ?_, fun v hv => hone v (List.mem_of_mem_drop hv), ?_⟩
    · rw [hsz, List.length_append]
      show 0 + (i + x.n) * k ≤ _
      have : (i + x.n) * k ≤ s.n * k := Nat.mul_le_mul_right k (by rw [hxn]; omega)
      omega
    · have hs3 : i + x.n = s.n - 1 := by rw [hxn]; omega
      show shS (SV.v ⟨some ⟨b, 0, none⟩, i + x.n, s.c⟩) _
      rw [shS_sv]
      simp only [hs3]
      refine ⟨⟨by omega, by omega, by omega⟩, ?_⟩
      rw [if_neg (by rw [Int.toNat_natCast]; omega)]
      simp only [Option.map_some, Int.toNat_natCast, add_eq, Nat.zero_add]
      rw [hsz, hol, show s.n - (s.n - 1) = 1 from by omega]
      have hR2 := Holds.upd1 hR (cs' := (l.take (i * k) ++ l.drop ((i + 1) * k)) ++ (l ++ rest).drop ((s.n - 1) * k)) (e' := e')
      have hz1 : (zeros z 1).length = k := by rw [zeros_length, hzs]; omega
      have hlA : (l.take (i * k) ++ l.drop ((i + 1) * k)).length = (s.n - 1) * k := by rw [List.length_append, List.length_take, List.length_drop]; omega
      have hlB : ((l ++ rest).drop ((s.n - 1) * k)).length + (s.n - 1) * k = s.c * k := by rw [List.length_drop, List.length_append]; omega
      refine clr1_ok ht hi' hz (by omega) (Holds.own1 hR2) (by rw [hz1, List.length_append, hlA]; omega) hzone ?_
      have hR3 := Holds.upd1 hR2 (cs' := over ((l.take (i * k) ++ l.drop ((i + 1) * k)) ++ (l ++ rest).drop ((s.n - 1) * k)) ((s.n - 1) * k) (zeros z 1)) (e' := e')
      have ho3 : over ((l.take (i * k) ++ l.drop ((i + 1) * k)) ++ (l ++ rest).drop ((s.n - 1) * k)) ((s.n - 1) * k) (zeros z 1) = (l.take (i * k) ++ l.drop ((i + 1) * k)) ++ over ((l ++ rest).drop ((s.n - 1) * k)) 0 (zeros z 1) := by
        have h9 := over_behind (l.take (i * k) ++ l.drop ((i + 1) * k)) ((l ++ rest).drop ((s.n - 1) * k)) (zeros z 1) (by rw [hz1]; omega)
        rw [hlA] at h9
        exact h9
      rw [ho3] at hR3 ⊢
      refine hK _ ⟨some ⟨b, 0, none⟩, s.n - 1, s.c⟩ (SlKA.ofRow hR3 hlA ?_) rfl
      rw [over_length, hlA]; omega
  · exact absurd hgrow (by rw [hxn]; show ¬ (s.c < i + (s.n - (i + 1))); omega)
end
end Go.Proofs.Ytedofpnjmnkedaa.HL
