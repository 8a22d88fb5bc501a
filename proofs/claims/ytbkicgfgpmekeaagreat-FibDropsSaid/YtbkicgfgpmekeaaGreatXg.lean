import Derived.Test.YtbkicgfgpmekeaaGreatHlK
import Derived.Test.YtbkicgfgpmekeaaGreatXa
import Derived.Test.YtbkicgfgpmekeaaGreatXc
import Derived.Test.YtbkicgfgpmekeaaGreatXb
import Derived.Test.YtbkicgfgpmekeaaGreatGenAll
/-
  HlX: an element of a slice of one's own is taken out: what lies behind it moves up, the last place is cleared.
-/
set_option linter.unusedVariables false
set_option linter.unusedSimpArgs false
namespace Go.Proofs.YtbkicgfgpmekeaaGreat.HL
open Go.RowKit (Below)

section
variable {P : Program} {w0 : World} {M F : Mem}

theorem clr_ok {t ty e : TypeId} {i : TypeInfo} {z : Value} (ht : P.underlying t = some (.slice e)) (hi : P.info? e = some i) (hz : i.zero = some z) {b o n c : Nat} (hn : 0 < n) {cs : List Value} {e' : TypeId} {K : Value → Mem → Prop}
    (ho : Own w0 M b cs e') (hl : o + (zeros z n).length ≤ cs.length) (hone : ∀ v ∈ zeros z n, onecell v = true) (hK : K (.tuple #[]) (M.set b (.row (over cs o (zeros z n)) e'))) :
    (std P w0).clr #[t] ty [.slice (some ⟨b, o, none⟩) n c] K M := by
  show act P w0 (Builtin.clear_ #[t] ty #[.slice (some ⟨b, o, none⟩) n c]) K M
  unfold Builtin.clear_
  obtain ⟨m, rfl⟩ : ∃ m, n = m + 1 := ⟨n - 1, by omega⟩
  simp only [List.getElem?_toArray, List.getElem?_cons_zero, peek_act (peek_under ht), bind_assoc, peek_act (peek_zero hi hz)]
  refine act_cells (f := fun _ => pure (Value.tuple #[])) b (zeros z (m + 1)) cs o 0 e' M ho.1 ho.2 (by simpa using hl) hone ?_
  simpa only [act_pure, Nat.add_zero] using hK

theorem SlKA.row {k : Nat} {s : SV} {l : List Value} {Q : Asn} (h : Holds w0 F M (star (SlKA k s l) Q)) (hn : 0 < s.n) : ∃ b rest e, s.a = some ⟨b, 0, none⟩ ∧ l.length = s.n * k ∧ l.length + rest.length = s.c * k ∧ Holds w0 F M (star (row1 b (l ++ rest) e) Q) := by
  obtain ⟨r, ⟨r1, r2, rfl, h1, h2⟩, h3⟩ := h
  rcases h1 with ⟨rfl, _, _⟩ | ⟨b, rest, e, e1, e2, e3, rfl⟩
  · simp at hn
  · exact ⟨b, rest, e, e1, e2, e3, _, ⟨[(b, l ++ rest, e)], r2, rfl, rfl, h2⟩, h3⟩
theorem SlKA.ofRow {k : Nat} {n c b : Nat} {l rest : List Value} {e : TypeId} {Q : Asn} (h : Holds w0 F M (star (row1 b (l ++ rest) e) Q)) (h1 : l.length = n * k) (h2 : l.length + rest.length = c * k) : Holds w0 F M (star (SlKA k ⟨some ⟨b, 0, none⟩, n, c⟩ l) Q) := by
  obtain ⟨r, ⟨r1, r2, rfl, g1, g2⟩, g3⟩ := h
  exact ⟨_, ⟨r1, r2, rfl, .inr ⟨b, rest, e, rfl, h1, h2, g1⟩, g2⟩, g3⟩

theorem over_behind (A B vs : List Value) (hv : vs.length ≤ B.length) : over (A ++ B) A.length vs = A ++ over B 0 vs := by
  apply List.ext_getElem?
  intro j
  rw [over_get _ _ _ _ (by rw [List.length_append]; omega), List.getElem?_append (l₁ := A) (l₂ := B), List.getElem?_append (l₁ := A) (l₂ := over B 0 vs), over_get _ _ _ _ (by omega)]
  by_cases hj : j < A.length
  · simp only [hj, if_true]
  · have e0 : ¬ (j - A.length < 0) := by omega
    by_cases hj2 : j < A.length + vs.length
    · have e1 : j - A.length < 0 + vs.length := by omega
      simp only [hj, hj2, e0, e1, if_false, if_true, Nat.sub_zero]
    · have e1 : ¬ (j - A.length < 0 + vs.length) := by omega
      simp only [hj, hj2, e0, e1, if_false]
theorem del_core {t ty e : TypeId} {z : Value} {k : Nat} (ht : P.underlying t = some (.slice e)) (he : ElemOk P e z k) (hk : 0 < k) {s : SV} {l : List Value} {Q : Asn} (h : Holds w0 F M (star (SlKA k s l) Q)) {i : Nat} (hi : i < s.n) (hone : ∀ v ∈ l, onecell v = true) (hzone : ∀ v ∈ zeros z 1, onecell v = true)
    (hb : s.n ≤ 1000000) {K : Value → Mem → Prop} (hK : ∀ M' s', Holds w0 F M' (star (SlKA k s' (l.take (i * k) ++ l.drop ((i + 1) * k))) Q) → s'.n = s.n - 1 → K s'.v M') :
    (std P w0).app #[t, t] t [.slice (if s.c = (0 : Int).toNat then s.a else s.a.map (·.add ((0 : Int).toNat * k))) ((i : Int).toNat - (0 : Int).toNat) (s.c - (0 : Int).toNat), .slice (if s.c = ((i + 1 : Nat) : Int).toNat then s.a else s.a.map (·.add (((i + 1 : Nat) : Int).toNat * k))) (((s.n : Nat) : Int).toNat - ((i + 1 : Nat) : Int).toNat) (s.c - ((i + 1 : Nat) : Int).toNat)]
      (fun v1 M2 => shS v1 fun s3 => (0 ≤ ((s3.n : Nat) : Int) ∧ ((s3.n : Nat) : Int) ≤ ((s.n : Nat) : Int) ∧ ((s.n : Nat) : Int) ≤ ((s3.c : Nat) : Int)) ∧ (std P w0).clr #[t] ty [.slice (if s3.c = ((s3.n : Nat) : Int).toNat then s3.a else s3.a.map (·.add (((s3.n : Nat) : Int).toNat * k))) (((s.n : Nat) : Int).toNat - ((s3.n : Nat) : Int).toNat) (s3.c - ((s3.n : Nat) : Int).toNat)] (fun v4 M5 => K (SV.v s3) M5) M2) M := by
  obtain ⟨inf, hi', hz, hsz, hzs, hb1, hb2⟩ := he
  obtain ⟨b, rest, e', ha, h1, h2, hR⟩ := SlKA.row h (by omega)
  have ho := Holds.own1 hR
  have hsc : s.n ≤ s.c := by
    apply Decidable.byContradiction
    intro hc
    have : (s.c + 1) * k ≤ s.n * k := Nat.mul_le_mul_right k (by omega)
    rw [Nat.succ_mul] at this
    omega
  have m1 : (i + 1) * k ≤ s.n * k := Nat.mul_le_mul_right k (by omega)
  have m2 : s.n * k ≤ s.c * k := Nat.mul_le_mul_right k hsc
  have m3 : i * k + k = (i + 1) * k := by rw [Nat.succ_mul]
  have m4 : (s.n - (i + 1)) * k + (i + 1) * k = s.n * k := by rw [← Nat.add_mul]; congr 1; omega
  have m5 : (s.n - 1) * k + k = s.n * k := by
    have : (s.n - 1) * k + 1 * k = s.n * k := by rw [← Nat.add_mul]; congr 1; omega
    simpa using this
  have adz : ∀ a : Addr, a.add 0 = a := fun a => by simp [Addr.add]
  have ea1 : (if s.c = (0 : Int).toNat then s.a else s.a.map (·.add ((0 : Int).toNat * k))) = some ⟨b, 0, none⟩ := by
    rw [ha]; split
    · rfl
    · simp [adz]
  obtain ⟨x, hx⟩ : ∃ x : SV, x = ⟨if s.c = ((i + 1 : Nat) : Int).toNat then s.a else s.a.map (·.add (((i + 1 : Nat) : Int).toNat * k)), s.n - (i + 1), s.c - (i + 1)⟩ := ⟨_, rfl⟩
  have e0 : (0 : Int).toNat = 0 := rfl
  have hxn : x.n = s.n - (i + 1) := by rw [hx]
  have hcx : Cells w0 M x.a (l.drop ((i + 1) * k)) := fun j v hj => by
    have hjl := (List.getElem?_eq_some_iff.1 hj).1
    rw [List.length_drop] at hjl
    have hne : ¬ s.c = ((i + 1 : Nat) : Int).toNat := by
      rw [Int.toNat_natCast]
      intro hc
      rw [hc] at m2; omega
    refine ⟨⟨b, (i + 1) * k, none⟩, ?_, ?_⟩
    · rw [hx]
      show (if s.c = ((i + 1 : Nat) : Int).toNat then s.a else _) = _
      rw [if_neg hne, ha, Int.toNat_natCast]
      simp [add_eq]
    · rw [add_eq, rd_own ho]
      rw [List.getElem?_drop] at hj
      rw [List.getElem?_append_left (by omega)]
      exact hj
  have key := app_ok (P := P) (w0 := w0) (M := M) (t := t) (ty := t) ht hi' hz (s := ⟨some ⟨b, 0, none⟩, i, s.c⟩) (x := x) (olds := l.take (i * k)) (news := l.drop ((i + 1) * k))
    (K := fun v1 M2 => shS v1 fun s3 => (0 ≤ ((s3.n : Nat) : Int) ∧ ((s3.n : Nat) : Int) ≤ ((s.n : Nat) : Int) ∧ ((s.n : Nat) : Int) ≤ ((s3.c : Nat) : Int)) ∧ (std P w0).clr #[t] ty [.slice (if s3.c = ((s3.n : Nat) : Int).toNat then s3.a else s3.a.map (·.add (((s3.n : Nat) : Int).toNat * k))) (((s.n : Nat) : Int).toNat - ((s3.n : Nat) : Int).toNat) (s3.c - ((s3.n : Nat) : Int).toNat)] (fun v4 M5 => K (SV.v s3) M5) M2)
    (by rw [List.length_take, hsz]; show min (i * k) l.length = i * k; omega)
    (fun j v hj => ⟨⟨b, 0, none⟩, rfl, by
      have hjl := (List.getElem?_eq_some_iff.1 hj).1
      rw [List.length_take] at hjl
      rw [List.getElem?_take_of_lt (by omega)] at hj
      rw [add_eq, rd_own ho, Nat.zero_add, List.getElem?_append_left (by omega)]
      exact hj⟩)
    (fun hn => by cases hn) (by rw [List.length_drop, hsz, hxn]; omega) hcx (fun hn => ?_) hb1 ?_ (fun hn => by cases hn) (fun a ha2 hfit => ?_) (fun hgrow => ?_)
  · have e1 : [Value.slice (if s.c = (0 : Int).toNat then s.a else s.a.map (·.add ((0 : Int).toNat * k))) ((i : Int).toNat - (0 : Int).toNat) (s.c - (0 : Int).toNat), .slice (if s.c = ((i + 1 : Nat) : Int).toNat then s.a else s.a.map (·.add (((i + 1 : Nat) : Int).toNat * k))) (((s.n : Nat) : Int).toNat - ((i + 1 : Nat) : Int).toNat) (s.c - ((i + 1 : Nat) : Int).toNat)] = [SV.v ⟨some ⟨b, 0, none⟩, i, s.c⟩, x.v] := by
      rw [ea1, hx, e0, Int.toNat_natCast, Int.toNat_natCast, Int.toNat_natCast]; rfl
    rw [e1]; exact key
  · rw [hx] at hn
    simp only at hn
    split at hn
    · rw [ha] at hn; cases hn
    · rw [ha] at hn; cases hn
  · show (i + x.n) * inf.bytes ≤ _
    have : i + x.n ≤ 1000000 := by rw [hxn]; omega
    exact Nat.le_trans (Nat.mul_le_mul this hb2) (by decide)
  · cases ha2
    have hol : over (l ++ rest) (i * k) (l.drop ((i + 1) * k)) = (l.take (i * k) ++ l.drop ((i + 1) * k)) ++ (l ++ rest).drop ((s.n - 1) * k) := by
      apply List.ext_getElem?
      intro j
      have hlen : i * k + (l.drop ((i + 1) * k)).length ≤ (l ++ rest).length := by rw [List.length_drop, List.length_append]; omega
      have hA : (l.take (i * k)).length = i * k := by rw [List.length_take]; omega
      have hB : (l.drop ((i + 1) * k)).length = (s.n - 1) * k - i * k := by rw [List.length_drop]; omega
      have hAB : (l.take (i * k) ++ l.drop ((i + 1) * k)).length = (s.n - 1) * k := by rw [List.length_append, hA, hB]; omega
      rw [over_get _ _ _ _ hlen, hB, List.getElem?_append (l₁ := l.take (i * k) ++ l.drop ((i + 1) * k)), hAB, List.getElem?_append (l₁ := l.take (i * k)), hA]
      by_cases h1 : j < i * k
      · rw [if_pos h1, if_pos (by omega), if_pos h1, List.getElem?_take_of_lt h1, List.getElem?_append_left (by omega)]
      · rw [if_neg h1]
        by_cases h2 : j < (s.n - 1) * k
        · rw [if_pos (by omega), if_pos h2, if_neg h1]
        · rw [if_neg (by omega), if_neg h2, List.getElem?_drop]
          congr 1; omega
    refine ⟨b, 0, l ++ rest, e', rfl, ho, ?_, fun v hv => hone v (List.mem_of_mem_drop hv), ?_⟩
    · rw [hsz, List.length_append]
      show 0 + (i + x.n) * k ≤ _
      have : (i + x.n) * k ≤ s.n * k := Nat.mul_le_mul_right k (by rw [hxn]; omega)
      omega
    · have hs3 : i + x.n = s.n - 1 := by rw [hxn]; omega
      show shS (SV.v ⟨some ⟨b, 0, none⟩, i + x.n, s.c⟩) _
      rw [shS_sv]
      simp only [hs3]
      refine ⟨⟨by omega, by omega, by omega⟩, ?_⟩
      rw [if_neg (by rw [Int.toNat_natCast]; omega)]
      simp only [Option.map_some, Int.toNat_natCast, add_eq, Nat.zero_add]
      rw [hsz, hol, show s.n - (s.n - 1) = 1 from by omega]
      have hR2 := Holds.upd1 hR (cs' := (l.take (i * k) ++ l.drop ((i + 1) * k)) ++ (l ++ rest).drop ((s.n - 1) * k)) (e' := e')
      have hz1 : (zeros z 1).length = k := by rw [zeros_length, hzs]; omega
      have hlA : (l.take (i * k) ++ l.drop ((i + 1) * k)).length = (s.n - 1) * k := by rw [List.length_append, List.length_take, List.length_drop]; omega
      have hlB : ((l ++ rest).drop ((s.n - 1) * k)).length + (s.n - 1) * k = s.c * k := by rw [List.length_drop, List.length_append]; omega
      refine clr_ok ht hi' hz (by omega) (Holds.own1 hR2) (by rw [hz1, List.length_append, hlA]; omega) hzone ?_
      have hR3 := Holds.upd1 hR2 (cs' := over ((l.take (i * k) ++ l.drop ((i + 1) * k)) ++ (l ++ rest).drop ((s.n - 1) * k)) ((s.n - 1) * k) (zeros z 1)) (e' := e')
      have ho3 : over ((l.take (i * k) ++ l.drop ((i + 1) * k)) ++ (l ++ rest).drop ((s.n - 1) * k)) ((s.n - 1) * k) (zeros z 1) = (l.take (i * k) ++ l.drop ((i + 1) * k)) ++ over ((l ++ rest).drop ((s.n - 1) * k)) 0 (zeros z 1) := by
        have h9 := over_behind (l.take (i * k) ++ l.drop ((i + 1) * k)) ((l ++ rest).drop ((s.n - 1) * k)) (zeros z 1) (by rw [hz1]; omega)
        rw [hlA] at h9
        exact h9
      rw [ho3] at hR3 ⊢
      refine hK _ ⟨some ⟨b, 0, none⟩, s.n - 1, s.c⟩ (SlKA.ofRow hR3 hlA ?_) rfl
      rw [over_length, hlA]; omega
  · exact absurd hgrow (by rw [hxn]; show ¬ (s.c < i + (s.n - (i + 1))); omega)

end
end Go.Proofs.YtbkicgfgpmekeaaGreat.HL

/-
  ChF: rings of cells: what each of chain's calls does.
-/
set_option linter.unusedVariables false
set_option linter.unusedSimpArgs false
set_option maxRecDepth 100000
namespace Go.Proofs.YtbkicgfgpmekeaaGreat.HL
open Go.RowKit (Below)
open Go.Proofs

section
variable {w0 : World} {M F : Mem} {R : Value → Mem → Prop}
variable {a : Nat} {α : AS}

theorem link_ok (hA : Holds w0 F M (arenaA a α)) {c d : Nat} (hc : α.live c = true) (hd : α.live d = true) (h : ∀ M' β, Holds w0 F M' (arenaA a β) → AS.Sm 2 (α.link c d) β → R (.tuple #[]) M') : C PP w0 Id.chain_link #[.pointer (some ⟨a, 0, none⟩), .int .i64 (c : Int), .int .i64 (d : Int)] R M := by
  apply chain_link.go
  unfold chain_link.T
  refine Set_ok hA fun M1 hA1 => ?_
  simp only [go_sem]
  refine Set_ok hA1 fun M2 hA2 => ?_
  simp only [go_sem]
  rw [show α.setI (c : Int) 3 (d : Int) = α.put c 3 (d : Int) from AS.setI_live (f := 3) hc (by omega) _] at hA2
  rw [show (α.put c 3 (d : Int)).tick.setI (d : Int) 2 (c : Int) = (α.put c 3 (d : Int)).tick.put d 2 (c : Int) from AS.setI_live (α := (α.put c 3 (d : Int)).tick) (f := 2) hd (by omega) _] at hA2
  exact h M2 _ hA2 ((AS.tick_sm.put d 2 _).trans AS.tick_sm)

theorem One_ok (hA : Holds w0 F M (arenaA a α)) {c : Nat} (hc : α.live c = true) (h : ∀ M' β, Holds w0 F M' (arenaA a β) → AS.Sm 2 (α.link c c) β → R (.tuple #[]) M') : C PP w0 Id.chain_One #[.pointer (some ⟨a, 0, none⟩), .int .i64 (c : Int)] R M := by
  apply chain_One.go
  unfold chain_One.T
  simp only [go_sem, Option.isNone_some, Bool.not_false, bs_true]
  exact link_ok hA hc hc h

theorem Put_ok (hA : Holds w0 F M (arenaA a α)) {c d : Nat} {r : List Nat} (hr : α.Ring c r) (hd : α.live d = true) (h : ∀ M' β, Holds w0 F M' (arenaA a β) → AS.Sm 5 ((α.link c d).link d (r.headD c)) β → R (.tuple #[]) M') :
    C PP w0 Id.chain_Put #[.pointer (some ⟨a, 0, none⟩), .int .i64 (c : Int), .int .i64 (d : Int)] R M := by
  apply chain_Put.go
  unfold chain_Put.T
  have hc := hr.live c List.mem_cons_self
  have hh : α.live (r.headD c) = true := hr.live _ (by cases r <;> simp)
  simp only [go_sem, Option.isNone_some, bs_false]
  refine Cell_ok hA fun M1 hA1 => ?_
  rw [show α.cellI (c : Int) 3 = ((r.headD c : Nat) : Int) from AS.cellI_live (f := 3) hc (by omega) hr.right (AS.live_lt hA.inv hh)]
  simp only [go_sem]
  refine link_ok hA1 hc hd fun M2 β2 hA2 hs2 => ?_
  refine link_ok hA2 (by rw [hs2.live]; exact hd) (by rw [hs2.live]; exact hh) fun M3 β3 hA3 hs3 => ?_
  exact h M3 β3 hA3 ((((AS.tick_sm.link c d).trans hs2).link d (r.headD c)).trans hs3)

theorem Join_ok (hA : Holds w0 F M (arenaA a α)) {c d : Nat} {r s : List Nat} (hr : α.Ring c r) (hs : α.Ring d s) (h : ∀ M' β, Holds w0 F M' (arenaA a β) → AS.Sm 6 ((α.link c d).link (s.getLastD d) (r.headD c)) β → R (.tuple #[]) M') :
    C PP w0 Id.chain_Join #[.pointer (some ⟨a, 0, none⟩), .int .i64 (c : Int), .int .i64 (d : Int)] R M := by
  apply chain_Join.go
  unfold chain_Join.T
  have hc := hr.live c List.mem_cons_self
  have hd := hs.live d List.mem_cons_self
  have hh : α.live (r.headD c) = true := hr.live _ (by cases r <;> simp)
  have hl : α.live (s.getLastD d) = true := hs.live _ (AS.last_mem d s)
  simp only [go_sem, Option.isNone_some, bs_false]
  refine Cell_ok hA fun M1 hA1 => ?_
  rw [show α.cellI (c : Int) 3 = ((r.headD c : Nat) : Int) from AS.cellI_live (f := 3) hc (by omega) hr.right (AS.live_lt hA.inv hh)]
  simp only [go_sem]
  refine Cell_ok hA1 fun M2 hA2 => ?_
  rw [show α.tick.cellI (d : Int) 2 = ((s.getLastD d : Nat) : Int) from AS.cellI_live (α := α.tick) (f := 2) hd (by omega) hs.left (AS.live_lt hA.inv hl)]
  simp only [go_sem]
  refine link_ok hA2 hc hd fun M3 β3 hA3 hs3 => ?_
  refine link_ok hA3 (by rw [hs3.live]; exact hl) (by rw [hs3.live]; exact hh) fun M4 β4 hA4 hs4 => ?_
  exact h M4 β4 hA4 (((((AS.tick_sm.trans AS.tick_sm).link c d).trans hs3).link _ _).trans hs4)

theorem Out_ok (hA : Holds w0 F M (arenaA a α)) {c : Nat} {r : List Nat} (hr : α.Ring c r) (h0 : r = [] → ∀ M' β, Holds w0 F M' (arenaA a β) → AS.Sm 6 α β → R (.int .i64 (-1)) M')
    (h1 : ∀ y q, r = y :: q → ∀ M' β, Holds w0 F M' (arenaA a β) → AS.Sm 6 ((α.link (q.getLastD y) y).link c c) β → R (.int .i64 (y : Int)) M') : C PP w0 Id.chain_Out #[.pointer (some ⟨a, 0, none⟩), .int .i64 (c : Int)] R M := by
  apply chain_Out.go
  unfold chain_Out.T
  have hc := hr.live c List.mem_cons_self
  have hh : α.live (r.headD c) = true := hr.live _ (by cases r <;> simp)
  have hl : α.live (r.getLastD c) = true := hr.live _ (AS.last_mem c r)
  simp only [go_sem, Option.isNone_some, bs_false]
  refine Cell_ok hA fun M1 hA1 => ?_
  rw [show α.cellI (c : Int) 3 = ((r.headD c : Nat) : Int) from AS.cellI_live (f := 3) hc (by omega) hr.right (AS.live_lt hA.inv hh)]
  simp only [go_sem]
  refine Cell_ok hA1 fun M2 hA2 => ?_
  rw [show α.tick.cellI (c : Int) 2 = ((r.getLastD c : Nat) : Int) from AS.cellI_live (α := α.tick) (f := 2) hc (by omega) hr.left (AS.live_lt hA.inv hl)]
  simp only [go_sem, bs_beq]
  cases r with
  | nil =>
    rw [List.headD_nil, if_pos rfl]
    exact h0 rfl M2 _ hA2 ((AS.tick_sm.trans AS.tick_sm).mono (by omega))
  | cons y q =>
    have hne : ¬ ((y : Int) = (c : Int)) := fun e => (List.nodup_cons.1 hr.nd).1 (by rw [show c = y from by omega]; simp)
    rw [List.headD_cons, if_neg hne]
    rw [List.getLastD_cons] at hl ⊢
    refine link_ok hA2 hl hh fun M3 β3 hA3 hs3 => ?_
    refine link_ok hA3 (by rw [hs3.live]; exact hc) (by rw [hs3.live]; exact hc) fun M4 β4 hA4 hs4 => ?_
    exact h1 y q rfl M4 β4 hA4 (((((AS.tick_sm.trans AS.tick_sm).link _ _).trans hs3).link c c).trans hs4)

theorem All_ok (hA : Holds w0 F M (arenaA a α)) {c : Nat} {r : List Nat} (hr : α.Ring c r) (h : ∀ M' s' β, Holds w0 F M' (star (SlA s' ((intsN (c :: r)).map (Value.int .i64))) (arenaA a β)) → AS.Sm (r.length + 1) α β → R s'.v M') : C PP w0 Id.chain_All #[.pointer (some ⟨a, 0, none⟩), .int .i64 (c : Int)] R M := by
  apply chain_All.go
  intro pts H
  unfold chain_All.T
  have hInv := hA.inv
  have hc := hr.live c List.mem_cons_self
  have hlt : ∀ x ∈ c :: r, x < α.n := fun x hx => AS.live_lt hInv (hr.live x hx)
  have hlen := nodup_len α.n (c :: r) hr.nd hlt
  have hn := hInv.n
  simp only [go_sem, Option.isNone_some, bs_false]
  refine Live_ok hA ?_
  rw [AS.liveI_nat, hc]
  simp only [go_sem, Bool.not_true, bs_false]
  rw [H.J1]
  unfold chain_All.J1.T
  refine bsl_ints (k := .i64) (l := [(c : Int)]) (Mem.le_refl _) Tryz.underlying61 W.e3 (n := 1) (by decide) (by kernel_rfl) rfl fun M1 o l1 _ h1 => ?_
  simp only [go_sem]
  have hH := hA.newSl l1 h1
  -- what has been seen, what is to come
  have key : ∀ (q p : List Nat) (k : Nat) (s : SV) (M' : Mem) (β : AS) (dd : Int), q.length < k → c :: r = c :: p ++ q → dd = ((q.headD c : Nat) : Int) → Holds w0 F M' (star (SlA s ((intsN (c :: p)).map (Value.int .i64))) (arenaA a β)) → AS.Sm (p.length + 1) α β → chain_All.L2 pts k (some ⟨a, 0, none⟩) (c : Int) s dd M' := by
    intro q
    induction q with
    | nil =>
      intro p k s M' β dd hk hq hdd hH hs
      obtain ⟨k, rfl⟩ : ∃ k', k = k' + 1 := ⟨k - 1, by simp at hk; omega⟩
      rw [H.L2]
      unfold chain_All.L2.T
      rw [hdd]
      simp only [List.headD_nil, bs_bne, if_true]
      rw [List.append_nil] at hq
      rw [← hq] at hH
      have hpr : p = r := by
        have := hq
        simp only [List.cons.injEq, true_and] at this
        exact this.symm
      rw [hpr] at hs
      exact h M' s β hH hs
    | cons d q ih =>
      intro p k s M' β dd hk hq hdd hH hs
      obtain ⟨k, rfl⟩ : ∃ k', k = k' + 1 := ⟨k - 1, by simp at hk; omega⟩
      rw [H.L2]
      unfold chain_All.L2.T
      rw [hdd]
      have hdm : d ∈ c :: r := by rw [hq]; simp
      have hdc : ¬ ((d : Int) = (c : Int)) := fun e => by
        have hnd := hr.nd
        rw [hq, List.cons_append, List.nodup_cons] at hnd
        exact hnd.1 (by rw [show c = d from by omega]; simp)
      have hdl : β.live d = true := by rw [hs.live]; exact hr.live d hdm
      simp only [List.headD_cons, bs_bne, if_neg hdc]
      obtain ⟨F', hB, hFF, back⟩ := hH.last
      refine Live_ok hB ?_
      rw [AS.liveI_nat, hdl]
      simp only [go_sem, bs_true]
      refine Cells_ok hB ?_
      have hlp : (c :: r).length = p.length + 1 + (q.length + 1) := by rw [hq]; simp; omega
      have hsn : s.n = p.length + 1 := by
        obtain ⟨r1, ⟨r2, r3, _, h2, _⟩, _⟩ := hH
        rw [h2.len]; simp [intsN]
      simp only [go_sem, bs_decide]
      rw [if_pos (by rw [hs.n, hsn]; omega), H.J3]
      unfold chain_All.J3.T
      refine push_ok hH (by simp [intsN]; omega) fun M2 s2 hH2 => ?_
      rw [show intsN (c :: p) ++ [(d : Int)] = intsN (c :: (p ++ [d])) from by simp [intsN]] at hH2
      obtain ⟨F2, hB2, _, back2⟩ := hH2.last
      refine Cell_ok hB2 fun M3 hB3 => ?_
      -- what is right of d
      have hring : α.Ring d (q ++ c :: p) := by
        have e1 : r = p ++ d :: q := by
          rw [List.cons_append] at hq; injection hq
        rw [e1] at hr
        exact hr.turn
      have hright := hring.right
      have hnx : β.get d 3 = ((q.headD c : Nat) : Int) := by
        rw [hs.get, hright]
        cases q <;> rfl
      have hqm : (q.headD c) ∈ c :: r := by
        rw [hq]; cases q <;> simp
      rw [show β.cellI (d : Int) 3 = ((q.headD c : Nat) : Int) from AS.cellI_live (f := 3) hdl (by omega) hnx (by rw [hs.n]; exact hlt _ hqm)]
      simp only [go_sem]
      exact ih (p ++ [d]) k s2 M3 β.tick _ (by simp at hk; omega) (by rw [hq]; simp) rfl (back2 M3 _ hB3) ((hs.trans AS.tick_sm).mono (by simp))
  obtain ⟨F', hB, hFF, back⟩ := hH.last
  refine Cell_ok hB fun M2 hB2 => ?_
  rw [show α.cellI (c : Int) 3 = ((r.headD c : Nat) : Int) from AS.cellI_live (f := 3) hc (by omega) hr.right (hlt _ (by cases r <;> simp))]
  simp only [go_sem]
  exact ⟨r.length + 1, key r [] (r.length + 1) o M2 α.tick _ (by omega) (by simp) rfl (back M2 _ hB2) (AS.tick_sm.mono (by simp))⟩

end
end Go.Proofs.YtbkicgfgpmekeaaGreat.HL

/-
  FbR: Fibonacci heaps in memory.
-/
set_option linter.unusedVariables false
set_option linter.unusedSimpArgs false
namespace Go.Proofs.YtbkicgfgpmekeaaGreat.HL
namespace LT

/-- These nodes are a ring, in this order. -/
def RgL (α : AS) : List Nat → Prop
  | [] => True
  | c :: r => α.Ring c r
theorem RgL.congr {α β : AS} {l : List Nat} (h : RgL α l) (h3 : ∀ x ∈ l, β.get x 3 = α.get x 3) (h2 : ∀ x ∈ l, β.get x 2 = α.get x 2) (hl : ∀ x ∈ l, β.live x = α.live x) : RgL β l := by
  cases l with
  | nil => trivial
  | cons c r => exact AS.Ring.congr h h3 h2 hl
/-- What stands in memory; where trees stand side by side is told apart. -/
def Rep (α : AS) : Int → LT → Prop
  | _, nil => True
  | up, node n i e m l r => α.Nd n i e ∧ α.get n 0 = up ∧ α.get n 1 = l.root ∧ α.get n 4 = (rk l : Int) ∧ α.get n 5 = (if m then 1 else 0) ∧ RgL α (rts l) ∧ Rep α n l ∧ Rep α up r
theorem Rep.congr {α β : AS} : ∀ {t : LT} {up : Int}, (cells t).Nodup → Rep α up t → (∀ c ∈ cells t, ∀ f, (c ∈ rts t → f ≠ 2 ∧ f ≠ 3) → β.get c f = α.get c f) → (∀ c ∈ cells t, β.live c = α.live c) → Rep β up t
  | nil, _, _, _, _, _ => trivial
  | node n i e m l r, up, hn, h, hg, hl => by
    obtain ⟨h1, h2, h3, h4, h5, h6, h7, h8⟩ := h
    simp only [cells, List.nodup_cons, List.mem_cons, List.mem_append, not_or] at hn
    obtain ⟨⟨ni, nl, nr⟩, ⟨il, ir⟩, hlr⟩ := hn
    obtain ⟨hnl, hnr, hd⟩ := List.nodup_append.1 hlr
    simp only [cells, List.mem_cons, List.mem_append] at hg hl
    have hrt : ∀ x ∈ rts r, x ∈ cells r := fun x hx => mem_nds (mem_rts hx)
    have hrl : ∀ x ∈ rts l, x ∈ cells l := fun x hx => mem_nds (mem_rts hx)
    have gn : ∀ f, f ≠ 2 → f ≠ 3 → β.get n f = α.get n f := fun f h2 h3 => hg n (.inl rfl) f fun _ => ⟨h2, h3⟩
    have gi : ∀ f, β.get i f = α.get i f := fun f => hg i (.inr (.inl rfl)) f fun hm => by
      rcases List.mem_cons.1 hm with e | hm
      · exact absurd e.symm ni
      · exact absurd (hrt i hm) ir
    have gl : ∀ c ∈ cells l, ∀ f, β.get c f = α.get c f := fun c hc f => hg c (.inr (.inr (.inl hc))) f fun hm => by
      rcases List.mem_cons.1 hm with e | hm
      · exact absurd (e ▸ hc) nl
      · exact absurd rfl (hd c hc c (hrt c hm))
    refine ⟨⟨(hl n (.inl rfl)).trans h1.ln, (hl i (.inr (.inl rfl))).trans h1.li, (gn 6 (by decide) (by decide)).trans h1.it, (gi 9).trans h1.nd, (gi 7).trans h1.k, (gi 8).trans h1.s⟩, (gn 0 (by decide) (by decide)).trans h2, (gn 1 (by decide) (by decide)).trans h3, (gn 4 (by decide) (by decide)).trans h4, (gn 5 (by decide) (by decide)).trans h5, ?_, ?_, ?_⟩
    · exact h6.congr (fun x hx => gl x (hrl x hx) 3) (fun x hx => gl x (hrl x hx) 2) (fun x hx => hl x (.inr (.inr (.inl (hrl x hx)))))
    · exact h7.congr hnl (fun c hc f _ => gl c hc f) (fun c hc => hl c (.inr (.inr (.inl hc))))
    · refine h8.congr hnr (fun c hc f hf => hg c (.inr (.inr (.inr hc))) f fun hm => ?_) (fun c hc => hl c (.inr (.inr (.inr hc))))
      rcases List.mem_cons.1 hm with e | hm
      · exact absurd (e ▸ hc) nr
      · exact hf hm
theorem Rep.same {α β : AS} {t : LT} {up : Int} (h : Rep α up t) (hn : (cells t).Nodup) (hg : ∀ c ∈ cells t, ∀ f, β.get c f = α.get c f) (hl : ∀ c ∈ cells t, β.live c = α.live c) : Rep β up t := h.congr hn (fun c hc f _ => hg c hc f) hl
theorem Rep.live {α : AS} : ∀ {t : LT} {up : Int}, Rep α up t → ∀ c ∈ cells t, α.live c = true
  | nil, _, _, c, hc => by cases hc
  | node n i e m l r, up, h, c, hc => by
    obtain ⟨h1, h2, h3, h4, h5, h6, h7, h8⟩ := h
    simp only [cells, List.mem_cons, List.mem_append] at hc
    rcases hc with rfl | rfl | hc | hc
    · exact h1.ln
    · exact h1.li
    · exact h7.live c hc
    · exact h8.live c hc
theorem Rep.rootv {α : AS} {t : LT} {up : Int} (h : Rep α up t) : t.root = -1 ∨ ∃ y : Nat, t.root = (y : Int) ∧ α.live y = true := by
  cases t with
  | nil => exact .inl rfl
  | node n i e m l r => exact .inr ⟨n, rfl, h.1.ln⟩
theorem root_mem {t : LT} {n : Nat} (h : t.root = (n : Int)) : n ∈ rts t := by
  cases t with
  | nil => simp only [root] at h; omega
  | node k i e m l r =>
    simp only [root] at h
    have : k = n := by omega
    subst this
    simp [rts]
theorem root_nil {t : LT} (h : t.root = -1) : t = nil := by
  cases t with
  | nil => rfl
  | node k i e m l r => simp only [root] at h; omega

def RepL (α : AS) (up : Int) (ts : List LT) : Prop := ∀ t ∈ ts, Rep α up t
theorem rep_row {α : AS} {up : Int} : ∀ {t : LT}, Rep α up t ↔ RepL α up (row t)
  | nil => ⟨fun _ t ht => (by cases ht), fun _ => trivial⟩
  | node n i e m l r => by
    have ih := rep_row (α := α) (up := up) (t := r)
    constructor
    · rintro ⟨h1, h2, h3, h4, h5, h6, h7, h8⟩ t ht
      rcases List.mem_cons.1 ht with rfl | ht
      · exact ⟨h1, h2, h3, h4, h5, h6, h7, trivial⟩
      · exact ih.1 h8 t ht
    · intro h
      obtain ⟨h1, h2, h3, h4, h5, h6, h7, _⟩ := h _ List.mem_cons_self
      exact ⟨h1, h2, h3, h4, h5, h6, h7, ih.2 fun t ht => h t (List.mem_cons_of_mem _ ht)⟩
theorem rep_glue {α : AS} {up : Int} {ts : List LT} (h : ∀ t ∈ ts, Sg t) : Rep α up (glue ts) ↔ RepL α up ts := by
  rw [rep_row, row_glue ts h]
/-- A tree has another one above it from now on. -/
theorem Rep.above {α β : AS} {t : LT} {up up' : Int} (h : Rep α up t) (ht : Sg t) (hn : (cells t).Nodup) (h0 : ∀ n : Nat, t.root = (n : Int) → β.get n 0 = up') (hg : ∀ c ∈ cells t, ∀ f, ((c : Int) = t.root → f ≠ 0 ∧ f ≠ 2 ∧ f ≠ 3) → β.get c f = α.get c f) (hl : ∀ c ∈ cells t, β.live c = α.live c) : Rep β up' t := by
  cases t with
  | nil => trivial
  | node n i e m l r =>
    have hr : r = nil := ht
    subst hr
    obtain ⟨h1, h2, h3, h4, h5, h6, h7, _⟩ := h
    simp only [cells, List.append_nil, List.nodup_cons, List.mem_cons, not_or] at hn
    obtain ⟨⟨ni, nl⟩, il, hnl⟩ := hn
    simp only [cells, List.append_nil, List.mem_cons] at hg hl
    have out : ∀ c : Nat, c ≠ n → (c : Int) ≠ (node n i e m l nil).root := fun c hc e => hc (by simp only [root] at e; omega)
    have gn : ∀ f, f ≠ 0 → f ≠ 2 → f ≠ 3 → β.get n f = α.get n f := fun f a b c => hg n (.inl rfl) f fun _ => ⟨a, b, c⟩
    have gi : ∀ f, β.get i f = α.get i f := fun f => hg i (.inr (.inl rfl)) f fun e => absurd e (out i fun e => ni e.symm)
    have gl : ∀ c ∈ cells l, ∀ f, β.get c f = α.get c f := fun c hc f => hg c (.inr (.inr hc)) f fun e => absurd e (out c fun e => nl (e ▸ hc))
    have hrl : ∀ x ∈ rts l, x ∈ cells l := fun x hx => mem_nds (mem_rts hx)
    refine ⟨⟨(hl n (.inl rfl)).trans h1.ln, (hl i (.inr (.inl rfl))).trans h1.li, (gn 6 (by decide) (by decide) (by decide)).trans h1.it, (gi 9).trans h1.nd, (gi 7).trans h1.k, (gi 8).trans h1.s⟩, h0 n rfl, (gn 1 (by decide) (by decide) (by decide)).trans h3, (gn 4 (by decide) (by decide) (by decide)).trans h4, (gn 5 (by decide) (by decide) (by decide)).trans h5, ?_, ?_, trivial⟩
    · exact h6.congr (fun x hx => gl x (hrl x hx) 3) (fun x hx => gl x (hrl x hx) 2) (fun x hx => hl x (.inr (.inr (hrl x hx))))
    · exact h7.same hnl gl (fun c hc => hl c (.inr (.inr hc)))
end LT
end Go.Proofs.YtbkicgfgpmekeaaGreat.HL

/-
  FbD: slices.Delete and slices.IndexFunc, on trees with their ranks.
-/
set_option linter.unusedVariables false
set_option linter.unusedSimpArgs false
set_option maxRecDepth 100000
namespace Go.Proofs.YtbkicgfgpmekeaaGreat.HL
open Go.RowKit (Below)
open Go.Proofs

def rkV (l : List (Nat × Nat)) : List Value := l.flatMap fun p => [.int .i64 (p.1 : Int), .int .i64 (p.2 : Int)]
theorem rkV_len (l : List (Nat × Nat)) : (rkV l).length = l.length * 2 := by
  induction l with
  | nil => rfl
  | cons x l ih => simp only [rkV, List.flatMap_cons, List.length_append, List.length_cons, List.length_nil] at ih ⊢; omega
theorem rkV_app (l m : List (Nat × Nat)) : rkV (l ++ m) = rkV l ++ rkV m := by simp [rkV]
theorem rkV_one {l : List (Nat × Nat)} : ∀ v ∈ rkV l, onecell v = true := fun v hv => by
  obtain ⟨p, _, hp⟩ := List.mem_flatMap.1 hv
  simp only [List.mem_cons, List.not_mem_nil, or_false] at hp
  rcases hp with rfl | rfl <;> rfl
theorem rkV_erase (l : List (Nat × Nat)) : ∀ (i : Nat), (rkV l).take (i * 2) ++ (rkV l).drop ((i + 1) * 2) = rkV (l.eraseIdx i) := by
  induction l with
  | nil => intro i; simp [rkV]
  | cons p l ih =>
    intro i
    cases i with
    | zero => simp [rkV]
    | succ i =>
      have h := ih i
      have e1 : (i + 1) * 2 = i * 2 + 1 + 1 := by omega
      have e2 : (i + 1 + 1) * 2 = (i + 1) * 2 + 1 + 1 := by omega
      rw [e1, e2, List.eraseIdx_cons_succ]
      simp only [rkV, List.flatMap_cons, List.cons_append, List.nil_append, List.take_succ_cons, List.drop_succ_cons] at h ⊢
      rw [h]

section
variable {w0 : World} {M F : Mem} {R : Value → Mem → Prop}

theorem DelR_ok {Q : Asn} {s : SV} {l : List (Nat × Nat)} (h : Holds w0 F M (star (SlKA 2 s (rkV l)) Q)) {i : Nat} (hi : i < l.length) (hb : l.length ≤ 100000) (hR : ∀ M' s', Holds w0 F M' (star (SlKA 2 s' (rkV (l.eraseIdx i))) Q) → R s'.v M') :
    C PP w0 Id.slices_Deletefib_ranked_fib_ranked #[SV.v s, .int .i64 (i : Int), .int .i64 ((i + 1 : Nat) : Int)] R M := by
  have hsn : s.n = l.length ∧ s.n ≤ s.c := by
    obtain ⟨r, ⟨r1, r2, _, h1, _⟩, _⟩ := h
    have h9 := rkV_len l
    rcases h1 with ⟨rfl, h2, _⟩ | ⟨b, rest, e, _, h2, h3, _⟩
    · rw [h2] at h9
      simp only [List.length_nil] at h9
      omega
    · omega
  apply slices_Deletefib_ranked_fib_ranked.go
  unfold slices_Deletefib_ranked_fib_ranked.T
  refine ⟨⟨by omega, by omega, by omega, by omega⟩, ?_⟩
  rw [bs_beq, if_neg (by omega)]
  refine ⟨⟨by omega, by omega, by omega⟩, ⟨by omega, by omega, by omega⟩, ?_⟩
  refine del_core (k := 2) Tryz.underlying109 W.e111 (by omega) h (by omega) rkV_one (fun v hv => ?_) (by omega) fun M' s' h' hn' => ?_
  · have : zeros (.agg #[.int .i64 0, .int .i64 0]) 1 = [.int .i64 0, .int .i64 0] := by kernel_rfl
    rw [this] at hv
    simp only [List.mem_cons, List.not_mem_nil, or_false] at hv
    rcases hv with rfl | rfl <;> rfl
  · rw [rkV_erase] at h'
    exact hR M' s' h'

end
end Go.Proofs.YtbkicgfgpmekeaaGreat.HL

/-
  FbE: slices.IndexFunc: the first tree of a rank.
-/
set_option linter.unusedVariables false
set_option linter.unusedSimpArgs false
set_option maxRecDepth 100000
namespace Go.Proofs.YtbkicgfgpmekeaaGreat.HL
open Go.RowKit (Below)
open Go.Proofs

def flatR (l : List (Nat × Nat)) : List Int := l.flatMap fun p => [(p.1 : Int), (p.2 : Int)]
theorem rkV_flat (l : List (Nat × Nat)) : rkV l = (flatR l).map (Value.int .i64) := by
  induction l with
  | nil => rfl
  | cons p l ih => simp only [rkV, flatR, List.flatMap_cons, List.map_append] at ih ⊢; rw [ih]; rfl
theorem flatR_get {l : List (Nat × Nat)} : ∀ {i : Nat} {p : Nat × Nat}, l[i]? = some p → ∀ (f : Nat) (v : Int), [(p.1 : Int), (p.2 : Int)][f]? = some v → (flatR l)[i * 2 + f]? = some v := by
  induction l with
  | nil => intro i x h; simp at h
  | cons y l ih =>
    intro i p h f v hv
    have hf : f < 2 := (List.getElem?_eq_some_iff.1 hv).1
    cases i with
    | zero =>
      simp at h; subst h
      simp only [flatR, List.flatMap_cons, Nat.zero_mul, Nat.zero_add]
      rw [List.getElem?_append_left (by simpa using hf)]; exact hv
    | succ i =>
      rw [List.getElem?_cons_succ] at h
      have := ih h f v hv
      simp only [flatR, List.flatMap_cons] at this ⊢
      rw [List.getElem?_append_right (by simp; omega), show (i + 1) * 2 + f - [(y.1 : Int), (y.2 : Int)].length = i * 2 + f from by simp; omega]
      exact this

section
variable {w0 : World} {M F : Mem} {R : Value → Mem → Prop}

theorem like_ok {y0 y1 r : Int} {b : Nat} (hx : ∀ M', Mem.le M M' → rd w0 M' ⟨b, 1, none⟩ = some (.int .i64 r)) (h : ∀ M', Mem.le M M' → R (.bool (y1 == r)) M') : C PP w0 Id.fib_unlike_1 #[.agg #[.int .i64 y0, .int .i64 y1], .pointer (some ⟨b, 0, none⟩)] R M := by
  apply fib_unlike_1.go
  unfold fib_unlike_1.T
  intro x1 hx1 hw1
  have f1 := (Fit.nil (w0 := w0) (Mem.le_refl M)).new hx1 hw1 (cs := [.int .i64 y0, .int .i64 y1]) (e := 111)
  have o1 := f1.own List.mem_cons_self
  have e1 : rd w0 _ ⟨x1, 1, none⟩ = some (.int .i64 y1) := rd_own (o := 1) o1
  have e2 := hx _ f1.fr
  have hh := h _ f1.fr
  generalize M.set x1 (.row [.int .i64 y0, .int .i64 y1] 111) = M2 at e1 e2 hh ⊢
  simp only [go_sem, add_eq, Nat.zero_add, e1, e2]
  exact hh

theorem IdxR_ok {s : SV} {l : List (Nat × Nat)} {r : Nat} {b : Nat} (hs : RdF w0 M 2 s (flatR l)) (hsn : s.n = l.length) (hb : l.length ≤ 100000) (hx : ∀ M', Mem.le M M' → rd w0 M' ⟨b, 1, none⟩ = some (.int .i64 (r : Int)))
    (h0 : (∀ p ∈ l, p.2 ≠ r) → ∀ M', Mem.le M M' → R (.int .i64 (-1)) M') (h1 : ∀ (i : Nat) p, l[i]? = some p → p.2 = r → (∀ (j : Nat) q, j < i → l[j]? = some q → q.2 ≠ r) → ∀ M', Mem.le M M' → R (.int .i64 (i : Int)) M') :
    C PP w0 Id.slices_IndexFuncfib_ranked_fib_ranked #[SV.v s, .func (.func Id.fib_unlike_1) #[] #[.pointer (some ⟨b, 0, none⟩)]] R M := by
  refine slices_IndexFuncfib_ranked_fib_ranked.go _ s (Id.fib_unlike_1, #[.pointer (some ⟨b, 0, none⟩)]) ?_
  intro pts H
  unfold slices_IndexFuncfib_ranked_fib_ranked.T
  have key : ∀ (k i : Nat) (M' : Mem), i ≤ l.length → l.length < i + k → Mem.le M M' → (∀ (j : Nat) q, j < i → l[j]? = some q → q.2 ≠ r) → slices_IndexFuncfib_ranked_fib_ranked.L1 pts k s (Id.fib_unlike_1, #[.pointer (some ⟨b, 0, none⟩)]) (s.n : Int) (i : Int) M' := by
    intro k
    induction k with
    | zero => intro i M' h1 h2; omega
    | succ k ih =>
      intro i M' hi hk hl hno
      rw [H.L1]
      unfold slices_IndexFuncfib_ranked_fib_ranked.L1.T
      rw [bs_decide]
      split
      · rename_i hlt
        have hin : i < l.length := by omega
        have hp := List.getElem?_eq_getElem hin
        generalize l[i] = p at hp
        refine rdfA (cs := [(p.1 : Int), (p.2 : Int)]) (K := fun v => shA v fun l4 => shCons l4 fun u5 r6 => shI .i64 u5 fun n7 => shCons r6 fun u8 r9 => shI .i64 u8 fun n10 => shNil r9 _) W.g111 hs hl i rfl (by omega) (by simp) (flatR_get hp) ?_
        simp only [List.map_cons, List.map_nil, shA_v, shCons_v, shI_v, shNil_v]
        refine like_ok (y0 := (p.1 : Int)) (y1 := (p.2 : Int)) (fun M2 h2 => hx M2 (Mem.le_trans hl h2)) fun M2 l2 => ?_
        rw [shB_v, bs_beq]
        split
        · rename_i he
          exact h1 i p hp (by omega) hno M2 (Mem.le_trans hl l2)
        · rename_i he
          rw [i64_succ (by omega)]
          refine ih (i + 1) M2 (by omega) (by omega) (Mem.le_trans hl l2) fun j q hj hq => ?_
          by_cases hji : j = i
          · subst hji
            rw [hp] at hq; cases hq
            omega
          · exact hno j q (by omega) hq
      · rename_i hge
        refine h0 (fun p hp => ?_) M' hl
        obtain ⟨j, hj⟩ := List.getElem?_of_mem hp
        have := (List.getElem?_eq_some_iff.1 hj).1
        exact hno j p (by omega) hj
  exact ⟨l.length + 1, key (l.length + 1) 0 M (by omega) (by omega) (Mem.le_refl _) fun j q hj => absurd hj (by omega)⟩

end
end Go.Proofs.YtbkicgfgpmekeaaGreat.HL

/-
  FbU: Fibonacci heaps: the lesser one of two; one tree below another one.
-/
set_option linter.unusedVariables false
set_option linter.unusedSimpArgs false
set_option maxRecDepth 100000
namespace Go.Proofs.YtbkicgfgpmekeaaGreat.HL
open Go.RowKit (Below)
open Go.Proofs

section
variable {w0 : World} {M F : Mem} {R : Value → Mem → Prop} {a : Nat} {α : AS}
open Go.Proofs.YtbkicgfgpmekeaaGreat.HL.LT

theorem lesser_ok (hA : Holds w0 F M (arenaA a α)) {n m i j : Nat} {e g : Ent} (h1 : α.Nd n i e) (h2 : α.Nd m j g) (h : ∀ M' β, Holds w0 F M' (arenaA a β) → AS.Sm 6 α β → R (.int .i64 ((if Bf (j, g) (i, e) then m else n : Nat) : Int)) M') :
    C PP w0 Id.fib_lesser #[.pointer (some ⟨a, 0, none⟩), .int .i64 (n : Int), .int .i64 (m : Int)] R M := by
  apply fib_lesser.go
  unfold fib_lesser.T
  refine nBefore_ok hA h2 h1 fun M1 β hB hs => ?_
  simp only [shB_v, bs_decide]
  split
  · rename_i hb
    have := h M1 β hB hs
    rwa [if_pos hb] at this
  · rename_i hb
    have := h M1 β hB hs
    rwa [if_neg hb] at this

def hd1 (ks : List Nat) : Int := match ks with
  | [] => -1
  | d :: _ => (d : Int)
theorem under_ok (hA : Holds w0 F M (arenaA a α)) {u n : Nat} {ks : List Nat} (hu : α.live u = true) (hn : α.live n = true) (hd : α.get u 1 = hd1 ks) (hr : RgL α ks) (hnk : n ∉ ks) (hun : u ≠ n)
    (h : ∀ M' β, Holds w0 F M' (arenaA a β) → RgL β (insL ks n) → β.get u 1 = hd1 (insL ks n) → β.get n 0 = (u : Int) → β.get n 5 = 0 → (∀ x k, ¬ (x = u ∧ k = 1) → ¬ (x = n ∧ (k = 0 ∨ k = 5)) → ¬ ((x = n ∨ x ∈ ks) ∧ (k = 2 ∨ k = 3)) → β.get x k = α.get x k) → AS.Chg (fun c => c = u ∨ c = n ∨ c ∈ ks) 11 α β → R (.tuple #[]) M') :
    C PP w0 Id.fib_under #[.pointer (some ⟨a, 0, none⟩), .int .i64 (n : Int), .int .i64 (u : Int)] R M := by
  apply fib_under.go
  intro pts H
  unfold fib_under.T
  refine One_ok hA hn fun M1 β hB hs => ?_
  have lu : β.live u = true := by rw [hs.live]; exact hu
  have ln : β.live n = true := by rw [hs.live]; exact hn
  have g1 : ∀ x k, ¬ (x = n ∧ (k = 2 ∨ k = 3)) → β.get x k = α.get x k := fun x k hx => by
    rw [hs.get]
    show (if x = n ∧ k = 2 then _ else if x = n ∧ k = 3 then _ else α.get x k) = _
    rw [if_neg (fun e => hx ⟨e.1, .inl e.2⟩), if_neg (fun e => hx ⟨e.1, .inr e.2⟩)]
  have c1 : AS.Chg (fun c => c = u ∨ c = n ∨ c ∈ ks) 2 α β := (((AS.Chg.refl (S := fun c => c = u ∨ c = n ∨ c ∈ ks) (α := α)).put (c := n) (f := 3) (v := (n : Int)) (.inr (.inl rfl))).put (c := n) (f := 2) (v := (n : Int)) (.inr (.inl rfl))).trans hs.chg |>.mono (fun _ h => h) (by omega)
  refine Cell_ok hB fun M2 hB2 => ?_
  -- the end
  have fin : ∀ (M3 : Mem) (γ : AS), Holds w0 F M3 (arenaA a γ) → γ.live = α.live → RgL γ (insL ks n) → γ.get u 1 = hd1 (insL ks n) → (∀ x k, ¬ (x = u ∧ k = 1) → ¬ ((x = n ∨ x ∈ ks) ∧ (k = 2 ∨ k = 3)) → γ.get x k = α.get x k) → AS.Chg (fun c => c = u ∨ c = n ∨ c ∈ ks) 9 α γ → fib_under.J1 pts (some ⟨a, 0, none⟩) (n : Int) (u : Int) M3 := by
    intro M3 γ hC hlg hrg hg1 hg hch
    rw [H.J1]
    unfold fib_under.J1.T
    have lng : γ.live n = true := by rw [hlg]; exact hn
    refine Set_ok hC fun M4 hC4 => ?_
    rw [show γ.setI (n : Int) 0 (u : Int) = γ.put n 0 (u : Int) from AS.setI_live (f := 0) lng (by omega) _] at hC4
    simp only [shB_v]
    refine Set_ok hC4 fun M5 hC5 => ?_
    rw [show (γ.put n 0 (u : Int)).tick.setI (n : Int) 5 0 = (γ.put n 0 (u : Int)).tick.put n 5 0 from AS.setI_live (α := (γ.put n 0 (u : Int)).tick) (f := 5) lng (by omega) _] at hC5
    simp only [shB_v]
    have g5 : ∀ x k, ((γ.put n 0 (u : Int)).tick.put n 5 0).tick.get x k = if x = n ∧ k = 5 then 0 else if x = n ∧ k = 0 then (u : Int) else γ.get x k := fun x k => rfl
    refine h M5 _ hC5 (hrg.congr (fun x _ => by rw [g5, if_neg (by omega), if_neg (by omega)]) (fun x _ => by rw [g5, if_neg (by omega), if_neg (by omega)]) (fun x _ => rfl)) (by rw [g5, if_neg (by omega), if_neg (by omega)]; exact hg1) (by rw [g5, if_neg (by omega), if_pos ⟨rfl, rfl⟩]) (by rw [g5, if_pos ⟨rfl, rfl⟩]) (fun x k h1 h2 h3 => ?_) ((((hch.put (c := n) (f := 0) (v := (u : Int)) (.inr (.inl rfl))).tick.put (c := n) (f := 5) (v := 0) (.inr (.inl rfl))).tick).mono (fun _ h => h) (by omega))
    rw [g5, if_neg (fun e => h2 ⟨e.1, .inr e.2⟩), if_neg (fun e => h2 ⟨e.1, .inl e.2⟩)]
    exact hg x k h1 h3
  have gu : β.get u 1 = hd1 ks := (g1 u 1 (by omega)).trans hd
  cases ks with
  | nil =>
    rw [show β.cellI (u : Int) 1 = -1 from AS.cellI_neg (f := 1) lu (by omega) gu, shI_v, bs_beq, if_pos rfl]
    refine Set_ok hB2 fun M3 hB3 => ?_
    rw [show β.tick.setI (u : Int) 1 (n : Int) = β.tick.put u 1 (n : Int) from AS.setI_live (α := β.tick) (f := 1) lu (by omega) _] at hB3
    simp only [shB_v]
    have g3 : ∀ x k, (β.tick.put u 1 (n : Int)).tick.get x k = if x = u ∧ k = 1 then (n : Int) else β.get x k := fun x k => rfl
    refine fin M3 _ hB3 hs.live ?_ (by rw [g3, if_pos ⟨rfl, rfl⟩]; rfl) (fun x k h1 h3 => ?_) ((c1.tick.put (c := u) (f := 1) (v := (n : Int)) (.inl rfl)).tick.mono (fun _ h => h) (by omega))
    · exact (AS.ring_one hn).congr (fun x _ => by rw [g3, if_neg (by omega), hs.get]) (fun x _ => by rw [g3, if_neg (by omega), hs.get]) (fun x _ => hs.live ▸ rfl)
    · rw [g3, if_neg h1]
      exact g1 x k (fun e => h3 ⟨.inl e.1, e.2⟩)
  | cons d r =>
    have hr' : α.Ring d r := hr
    have ld : α.live d = true := hr'.live d List.mem_cons_self
    rw [show β.cellI (u : Int) 1 = (d : Int) from AS.cellI_live (f := 1) lu (by omega) gu (AS.live_lt hB.inv (by rw [hs.live]; exact ld)), shI_v, bs_beq, if_neg (by omega)]
    have hrb : β.tick.Ring d r := hr'.congr (fun x hx => g1 x 3 (fun e => hnk (e.1 ▸ hx))) (fun x hx => g1 x 2 (fun e => hnk (e.1 ▸ hx))) (fun x _ => hs.live ▸ rfl)
    refine Put_ok hB2 hrb ln fun M3 γ hC hs3 => ?_
    have hh : r.headD d ∈ d :: r := by cases r <;> simp
    have g3 : ∀ x k, γ.get x k = if x = r.headD d ∧ k = 2 then (n : Int) else if x = n ∧ k = 3 then ((r.headD d : Nat) : Int) else if x = n ∧ k = 2 then (d : Int) else if x = d ∧ k = 3 then (n : Int) else β.get x k := fun x k => by rw [hs3.get]; rfl
    refine fin M3 γ hC (hs3.live.trans hs.live) ?_ ?_ (fun x k h1 h3 => ?_) ?_
    · exact hs3.ring (AS.ring_put hrb hnk ln)
    · rw [g3, if_neg (by omega), if_neg (by omega), if_neg (by omega), if_neg (by omega)]; exact gu
    · rw [g3, if_neg (fun e : x = r.headD d ∧ k = 2 => h3 ⟨.inr (by rw [e.1]; exact hh), .inl e.2⟩), if_neg (fun e : x = n ∧ k = 3 => h3 ⟨.inl e.1, .inr e.2⟩), if_neg (fun e : x = n ∧ k = 2 => h3 ⟨.inl e.1, .inl e.2⟩), if_neg (fun e : x = d ∧ k = 3 => h3 ⟨.inr (by rw [e.1]; exact List.mem_cons_self), .inr e.2⟩)]
      exact g1 x k (fun e => h3 ⟨.inl e.1, e.2⟩)
    · exact ((((((c1.tick.put (c := d) (f := 3) (v := (n : Int)) (.inr (.inr List.mem_cons_self))).put (c := n) (f := 2) (v := (d : Int)) (.inr (.inl rfl))).put (c := n) (f := 3) (v := ((r.headD d : Nat) : Int)) (.inr (.inl rfl))).put (c := r.headD d) (f := 2) (v := (n : Int)) (.inr (.inr hh))).trans hs3.chg)).mono (fun _ h => h) (by omega)

end
end Go.Proofs.YtbkicgfgpmekeaaGreat.HL

/-
  FbV: Fibonacci heaps: a child leaves its place, for one beside the root.
-/
set_option linter.unusedVariables false
set_option linter.unusedSimpArgs false
set_option maxRecDepth 100000
namespace Go.Proofs.YtbkicgfgpmekeaaGreat.HL
open Go.RowKit (Below)
open Go.Proofs

section
variable {w0 : World} {M F : Mem} {R : Value → Mem → Prop} {a : Nat} {α : AS}
open Go.Proofs.YtbkicgfgpmekeaaGreat.HL.LT

/-- A ring without one of it, in the order that it had. -/
theorem ring_less {α β : AS} {n : Nat} {pre post : List Nat} (h : RgL α (pre ++ n :: post)) (hb : ∀ y q, post ++ pre = y :: q → β.Ring y q) : RgL β (pre ++ post) := by
  cases pre with
  | nil =>
    cases post with
    | nil => trivial
    | cons y q => exact hb y q (by simp)
  | cons d p =>
    cases post with
    | nil =>
      have := hb d p (by simp)
      simpa [RgL] using this
    | cons y q =>
      have h1 : β.Ring y (q ++ d :: p) := hb y (q ++ d :: p) (by simp)
      have h2 := h1.turn
      simpa [RgL] using h2
theorem ring_at {α : AS} {n : Nat} {pre post : List Nat} (h : RgL α (pre ++ n :: post)) : α.Ring n (post ++ pre) := by
  cases pre with
  | nil => simpa [RgL] using h
  | cons d p =>
    have h1 : α.Ring d (p ++ n :: post) := by simpa [RgL] using h
    exact h1.turn

theorem leave_ok (hA : Holds w0 F M (arenaA a α)) {u n r0 : Nat} {pre post q : List Nat} {k : Int} (hu : α.live u = true) (hd : α.get u 1 = hd1 (pre ++ n :: post)) (h4 : α.get u 4 = k) (hk0 : -1000000 ≤ k) (hk1 : k ≤ 1000000)
    (hk : RgL α (pre ++ n :: post)) (hR : α.Ring r0 q) (hdis : ∀ x ∈ pre ++ n :: post, x ∉ r0 :: q) (hun : u ∉ pre ++ n :: post)
    (h : ∀ M' β, Holds w0 F M' (arenaA a β) → RgL β (pre ++ post) → β.get u 1 = hd1 (pre ++ post) → β.get u 4 = k - 1 → β.get n 0 = -1 → β.Ring r0 (n :: q) → (∀ x f, ¬ (x = u ∧ (f = 1 ∨ f = 4)) → ¬ (x = n ∧ f = 0) → ¬ ((x ∈ pre ++ n :: post ∨ x ∈ r0 :: q) ∧ (f = 2 ∨ f = 3)) → β.get x f = α.get x f) → AS.Chg (fun c => c = u ∨ c ∈ pre ++ n :: post ∨ c ∈ r0 :: q) 16 α β → R (.tuple #[]) M') :
    C PP w0 Id.fib_leave #[.pointer (some ⟨a, 0, none⟩), .int .i64 (r0 : Int), .int .i64 (n : Int), .int .i64 (u : Int)] R M := by
  apply fib_leave.go
  intro pts H
  unfold fib_leave.T
  have hI := hA.inv
  have hnm : n ∈ pre ++ n :: post := by simp
  have hring := ring_at hk
  have hnu : n ≠ u := fun e => hun (e ▸ hnm)
  have hln : α.live n = true := hring.live n List.mem_cons_self
  have hnr : n ∉ r0 :: q := hdis n hnm
  have hlive : ∀ x ∈ pre ++ n :: post, α.live x = true := fun x hx => hring.live x (by
    rcases List.mem_append.1 hx with hx | hx
    · simp [hx]
    · rcases List.mem_cons.1 hx with rfl | hx <;> simp [*])
  -- behind the ring's change
  have mid : ∀ (M1 : Mem) (β : AS) (nx : Int), Holds w0 F M1 (arenaA a β) → β.live = α.live → RgL β (pre ++ post) → (pre = [] → nx = hd1 post) → (∀ x f, ¬ (x ∈ pre ++ n :: post ∧ (f = 2 ∨ f = 3)) → β.get x f = α.get x f) → AS.Chg (fun c => c = u ∨ c ∈ pre ++ n :: post ∨ c ∈ r0 :: q) 6 α β →
      (std PP w0).call Id.arena_Arena_Cell #[.pointer (some ⟨a, 0, none⟩), .int .i64 (u : Int), .int .i64 1] (fun v4 M5 => shI .i64 v4 fun n6 => bs ((n6 == (n : Int))) ((std PP w0).call Id.arena_Arena_Set #[.pointer (some ⟨a, 0, none⟩), .int .i64 (u : Int), .int .i64 1, .int .i64 nx] (fun v7 M8 => shB v7 fun b9 => fib_leave.J1 pts (some ⟨a, 0, none⟩) (r0 : Int) (n : Int) (u : Int) M8) M5) (fib_leave.J1 pts (some ⟨a, 0, none⟩) (r0 : Int) (n : Int) (u : Int) M5)) M1 := by
    intro M1 β nx hB hlb hrb hnx hg hch
    have hub : β.live u = true := by rw [hlb]; exact hu
    have g1 : ∀ f, β.get u f = α.get u f := fun f => hg u f (fun e => hun e.1)
    have fin : ∀ (M3 : Mem) (γ : AS), Holds w0 F M3 (arenaA a γ) → γ.live = α.live → (∀ x f, ¬ (x = u ∧ f = 1) → γ.get x f = β.get x f) → γ.get u 1 = hd1 (pre ++ post) → AS.Chg (fun c => c = u ∨ c ∈ pre ++ n :: post ∨ c ∈ r0 :: q) 8 α γ → fib_leave.J1 pts (some ⟨a, 0, none⟩) (r0 : Int) (n : Int) (u : Int) M3 := by
      intro M3 γ hC hlg hgg hg1 hch2
      rw [H.J1]
      unfold fib_leave.J1.T
      have lug : γ.live u = true := by rw [hlg]; exact hu
      have lng : γ.live n = true := by rw [hlg]; exact hln
      refine Get_ok hC fun M4 hC4 => ?_
      rw [show γ.getI (u : Int) 4 = k from (AS.getI_live (f := 4) lug (by omega)).trans ((hgg u 4 (by omega)).trans ((g1 4).trans h4))]
      simp only [shI_v]
      refine Set_ok hC4 fun M5 hC5 => ?_
      rw [w64_in (by omega), show γ.tick.setI (u : Int) 4 (k - 1) = γ.tick.put u 4 (k - 1) from AS.setI_live (α := γ.tick) (f := 4) lug (by omega) _] at hC5
      simp only [shB_v]
      refine Set_ok hC5 fun M6 hC6 => ?_
      rw [show (γ.tick.put u 4 (k - 1)).tick.setI (n : Int) 0 (-1) = (γ.tick.put u 4 (k - 1)).tick.put n 0 (-1) from AS.setI_live (α := (γ.tick.put u 4 (k - 1)).tick) (f := 0) lng (by omega) _] at hC6
      simp only [shB_v]
      have g6 : ∀ x f, (((γ.tick.put u 4 (k - 1)).tick.put n 0 (-1)).tick).get x f = if x = n ∧ f = 0 then -1 else if x = u ∧ f = 4 then k - 1 else γ.get x f := fun x f => rfl
      have c6 := (((hch2.tick.put (c := u) (f := 4) (v := k - 1) (.inl rfl)).tick.put (c := n) (f := 0) (v := -1) (.inr (.inl hnm))).tick)
      generalize hδ : ((γ.tick.put u 4 (k - 1)).tick.put n 0 (-1)).tick = δ at hC6 g6 c6
      have hld : δ.live = α.live := by rw [← hδ]; exact hlg
      have gq : ∀ x ∈ r0 :: q, ∀ f, f = 2 ∨ f = 3 → δ.get x f = α.get x f := fun x hx f hf => by
        rw [g6, if_neg (by omega), if_neg (by omega), hgg _ _ (by omega), hg]
        exact fun e => hdis x e.1 hx
      have hRd : δ.Ring r0 q := hR.congr (fun x hx => gq x hx 3 (.inr rfl)) (fun x hx => gq x hx 2 (.inl rfl)) (fun x hx => by rw [hld])
      refine Put_ok hC6 hRd (by rw [hld]; exact hln) fun M7 ε hE hs => ?_
      have hh : q.headD r0 ∈ r0 :: q := by cases q <;> simp
      have g7 : ∀ x f, ε.get x f = if x = q.headD r0 ∧ f = 2 then (n : Int) else if x = n ∧ f = 3 then ((q.headD r0 : Nat) : Int) else if x = n ∧ f = 2 then (r0 : Int) else if x = r0 ∧ f = 3 then (n : Int) else δ.get x f := fun x f => by rw [hs.get]; rfl
      have hle : ε.live = α.live := hs.live.trans hld
      have gout : ∀ x f, ¬ ((x = n ∨ x ∈ r0 :: q) ∧ (f = 2 ∨ f = 3)) → ε.get x f = δ.get x f := fun x f hx => by
        rw [g7, if_neg (fun e : x = q.headD r0 ∧ f = 2 => hx ⟨.inr (by rw [e.1]; exact hh), .inl e.2⟩), if_neg (fun e : x = n ∧ f = 3 => hx ⟨.inl e.1, .inr e.2⟩), if_neg (fun e : x = n ∧ f = 2 => hx ⟨.inl e.1, .inl e.2⟩), if_neg (fun e : x = r0 ∧ f = 3 => hx ⟨.inr (by rw [e.1]; exact List.mem_cons_self), .inr e.2⟩)]
      refine h M7 ε hE ?_ ?_ ?_ ?_ (hs.ring (AS.ring_put hRd hnr (by rw [hld]; exact hln))) (fun x f h1 h2 h3 => ?_) ?_
      · have hnd := hring.nd
        have sub : ∀ x ∈ pre ++ post, x ∈ pre ++ n :: post ∧ x ≠ n := fun x hx => by
          have hx2 : x ∈ post ++ pre := by rcases List.mem_append.1 hx with h | h <;> simp [h]
          refine ⟨by rcases List.mem_append.1 hx with h | h <;> simp [h], fun e => (List.nodup_cons.1 hnd).1 (e ▸ hx2)⟩
        refine hrb.congr (fun x hx => ?_) (fun x hx => ?_) (fun x hx => by rw [hle, hlb])
        · obtain ⟨s1, s2⟩ := sub x hx
          rw [gout x 3 (fun e => by rcases e.1 with e | e; exact s2 e; exact hdis x s1 e), g6, if_neg (by omega), if_neg (by omega), hgg _ _ (by omega)]
        · obtain ⟨s1, s2⟩ := sub x hx
          rw [gout x 2 (fun e => by rcases e.1 with e | e; exact s2 e; exact hdis x s1 e), g6, if_neg (by omega), if_neg (by omega), hgg _ _ (by omega)]
      · rw [gout u 1 (by omega), g6, if_neg (by omega), if_neg (by omega)]; exact hg1
      · rw [gout u 4 (by omega), g6, if_neg (by omega), if_pos ⟨rfl, rfl⟩]
      · rw [gout n 0 (by omega), g6, if_pos ⟨rfl, rfl⟩]
      · rw [gout x f (fun e => h3 ⟨by rcases e.1 with e1 | e1; exact .inl (e1 ▸ hnm); exact .inr e1, e.2⟩), g6, if_neg h2, if_neg (fun e => h1 ⟨e.1, .inr e.2⟩), hgg x f (fun e => h1 ⟨e.1, .inl e.2⟩), hg x f (fun e => h3 ⟨.inl e.1, e.2⟩)]
      · exact (((((c6.put (c := r0) (f := 3) (v := (n : Int)) (.inr (.inr List.mem_cons_self))).put (c := n) (f := 2) (v := (r0 : Int)) (.inr (.inl hnm))).put (c := n) (f := 3) (v := ((q.headD r0 : Nat) : Int)) (.inr (.inl hnm))).put (c := q.headD r0) (f := 2) (v := (n : Int)) (.inr (.inr hh))).trans hs.chg).mono (fun _ h => h) (by omega)
    refine Cell_ok hB fun M2 hB2 => ?_
    obtain ⟨dd, hdv, hdm⟩ : ∃ dd : Nat, hd1 (pre ++ n :: post) = (dd : Int) ∧ dd ∈ pre ++ n :: post := by
      have key : ∀ p : List Nat, ∃ dd : Nat, hd1 (p ++ n :: post) = (dd : Int) ∧ dd ∈ p ++ n :: post := fun p => by
        cases p with
        | nil => exact ⟨n, rfl, by simp⟩
        | cons d p => exact ⟨d, rfl, by simp⟩
      exact key pre
    rw [show β.cellI (u : Int) 1 = hd1 (pre ++ n :: post) from by
      rw [hdv]
      exact AS.cellI_live (f := 1) hub (by omega) (by rw [g1, hd, hdv]) (AS.live_lt hB.inv (by rw [hlb]; exact hlive _ hdm))]
    rw [shI_v, bs_beq]
    split
    · rename_i he
      have hp : pre = [] := by
        cases pre with
        | nil => rfl
        | cons d p =>
          exfalso
          have : d = n := by simp only [List.cons_append, hd1] at he; omega
          subst this
          have hnd := hring.nd
          simp at hnd
      have hnx' := hnx hp
      subst hp
      refine Set_ok hB2 fun M3 hB3 => ?_
      rw [show β.tick.setI (u : Int) 1 nx = β.tick.put u 1 nx from AS.setI_live (α := β.tick) (f := 1) hub (by omega) _] at hB3
      simp only [shB_v]
      refine fin M3 _ hB3 hlb (fun x f hx => ?_) ?_ ((hch.tick.put (c := u) (f := 1) (v := nx) (.inl rfl)).tick.mono (fun _ h => h) (by omega))
      · show (if x = u ∧ f = 1 then nx else β.get x f) = _
        rw [if_neg hx]
      · show (if u = u ∧ 1 = 1 then nx else β.get u 1) = _
        rw [if_pos ⟨rfl, rfl⟩, hnx']; rfl
    · rename_i he
      refine fin M2 _ hB2 hlb (fun x f _ => rfl) ?_ (hch.tick.mono (fun _ h => h) (by omega))
      show β.get u 1 = _
      rw [g1, hd]
      cases pre with
      | nil => exact absurd rfl he
      | cons d p => rfl
  refine Out_ok hA hring (fun h0 M1 β hB hs => ?_) fun y p hy M1 β hB hs => ?_
  · rw [shI_v]
    have hpe : post = [] ∧ pre = [] := by
      cases post with
      | nil => exact ⟨rfl, by simpa using h0⟩
      | cons _ _ => simp at h0
    obtain ⟨rfl, rfl⟩ := hpe
    exact mid M1 β (-1) hB hs.live trivial (fun _ => rfl) (fun x f _ => by rw [hs.get]) (hs.chg.mono (fun _ h => h) (Int.le_refl _))
  · rw [shI_v]
    have hym : ∀ z ∈ y :: p, z ∈ pre ++ n :: post := fun z hz => by
      rw [← hy] at hz
      rcases List.mem_append.1 hz with h | h <;> simp [h]
    have hl := hym _ (AS.last_mem y p)
    have gg : ∀ x f, β.get x f = if x = n ∧ f = 2 then (n : Int) else if x = n ∧ f = 3 then (n : Int) else if x = y ∧ f = 2 then ((p.getLastD y : Nat) : Int) else if x = p.getLastD y ∧ f = 3 then (y : Int) else α.get x f := fun x f => by rw [hs.get]; rfl
    have hyl := hym y List.mem_cons_self
    refine mid M1 β (y : Int) hB hs.live (ring_less hk fun y' q' e => ?_) (fun hp => ?_) (fun x f hx => ?_) ?_
    · rw [hy] at e
      cases e
      rw [hy] at hring
      exact hs.ring (AS.ring_out hring).1
    · subst hp
      rw [List.append_nil] at hy
      rw [hy]; rfl
    · rw [gg, if_neg (fun e : x = n ∧ f = 2 => hx ⟨e.1 ▸ hnm, .inl e.2⟩), if_neg (fun e : x = n ∧ f = 3 => hx ⟨e.1 ▸ hnm, .inr e.2⟩), if_neg (fun e : x = y ∧ f = 2 => hx ⟨e.1 ▸ hyl, .inl e.2⟩), if_neg (fun e : x = p.getLastD y ∧ f = 3 => hx ⟨e.1 ▸ hl, .inr e.2⟩)]
    · exact ((((((AS.Chg.refl (S := fun c => c = u ∨ c ∈ pre ++ n :: post ∨ c ∈ r0 :: q) (α := α)).put (c := p.getLastD y) (f := 3) (v := (y : Int)) (.inr (.inl hl))).put (c := y) (f := 2) (v := ((p.getLastD y : Nat) : Int)) (.inr (.inl hyl))).put (c := n) (f := 3) (v := (n : Int)) (.inr (.inl hnm))).put (c := n) (f := 2) (v := (n : Int)) (.inr (.inl hnm))).trans hs.chg).mono (fun _ h => h) (by omega)

end
end Go.Proofs.YtbkicgfgpmekeaaGreat.HL

/-
  FbW: Fibonacci heaps in memory: trees that are tops, in whatever order; a tree below another one.
-/
set_option linter.unusedVariables false
set_option linter.unusedSimpArgs false
namespace Go.Proofs.YtbkicgfgpmekeaaGreat.HL
namespace LT

def rt1 : LT → Nat
  | nil => 0
  | node n _ _ _ _ _ => n
theorem rts_sg {t : LT} (h : Sg t) : rts t = [rt1 t] := by
  cases t with
  | nil => exact h.elim
  | node n i e m l r =>
    have hr : r = nil := h
    subst hr; rfl
theorem root_sg {t : LT} (h : Sg t) : t.root = (rt1 t : Int) := by
  cases t with
  | nil => exact h.elim
  | node n i e m l r => rfl
theorem rts_row : ∀ (t : LT), (row t).map rt1 = rts t
  | nil => rfl
  | node n i e m l r => by simp only [row, rts, List.map_cons, rts_row r, rt1]
theorem rts_glue {ts : List LT} (h : ∀ t ∈ ts, Sg t) : rts (glue ts) = ts.map rt1 := by rw [← rts_row, row_glue ts h]
theorem rk_glue {ts : List LT} (h : ∀ t ∈ ts, Sg t) : rk (glue ts) = ts.length := by rw [← row_len, row_glue ts h]
theorem root_hd : ∀ (t : LT), t.root = hd1 (rts t)
  | nil => rfl
  | node n i e m l r => rfl
theorem unm_rt1 (t : LT) : rt1 (unm t) = rt1 t := by cases t <;> rfl
theorem insL_map {β γ : Type} (f : β → γ) (l : List β) (s : β) : (insL l s).map f = insL (l.map f) (f s) := by cases l <;> rfl
theorem rt1_mem {t : LT} (h : Sg t) : rt1 t ∈ cells t := by
  cases t with
  | nil => exact h.elim
  | node n i e m l r => simp [rt1, cells]

/-- A tree has another one above it, and has lost none. -/
theorem Rep.unm {α β : AS} {s : LT} {up up' : Int} (h : Rep α up s) (hs : Sg s) (hn : (cells s).Nodup) (h0 : β.get (rt1 s) 0 = up') (h5 : β.get (rt1 s) 5 = 0) (hg : ∀ c ∈ cells s, ∀ f, (c = rt1 s → f ≠ 0 ∧ f ≠ 2 ∧ f ≠ 3 ∧ f ≠ 5) → β.get c f = α.get c f) (hl : ∀ c ∈ cells s, β.live c = α.live c) : Rep β up' (unm s) := by
  cases s with
  | nil => trivial
  | node n i e m l r =>
    have hr : r = nil := hs
    subst hr
    obtain ⟨h1, h2, h3, h4, _, h6, h7, _⟩ := h
    simp only [cells, List.append_nil, List.nodup_cons, List.mem_cons, not_or] at hn
    obtain ⟨⟨ni, nl⟩, il, hnl⟩ := hn
    simp only [cells, List.append_nil, List.mem_cons] at hg hl
    simp only [rt1] at h0 h5 hg
    have gn : ∀ f, f ≠ 0 → f ≠ 2 → f ≠ 3 → f ≠ 5 → β.get n f = α.get n f := fun f a b c d => hg n (.inl rfl) f fun _ => ⟨a, b, c, d⟩
    have gi : ∀ f, β.get i f = α.get i f := fun f => hg i (.inr (.inl rfl)) f fun e => absurd e (fun e => ni e.symm)
    have gl : ∀ c ∈ cells l, ∀ f, β.get c f = α.get c f := fun c hc f => hg c (.inr (.inr hc)) f fun e => absurd e (fun e => nl (e ▸ hc))
    have hrl : ∀ x ∈ rts l, x ∈ cells l := fun x hx => mem_nds (mem_rts hx)
    refine ⟨⟨(hl n (.inl rfl)).trans h1.ln, (hl i (.inr (.inl rfl))).trans h1.li, (gn 6 (by decide) (by decide) (by decide) (by decide)).trans h1.it, (gi 9).trans h1.nd, (gi 7).trans h1.k, (gi 8).trans h1.s⟩, h0, (gn 1 (by decide) (by decide) (by decide) (by decide)).trans h3, (gn 4 (by decide) (by decide) (by decide) (by decide)).trans h4, h5, ?_, ?_, trivial⟩
    · exact h6.congr (fun x hx => gl x (hrl x hx) 3) (fun x hx => gl x (hrl x hx) 2) (fun x hx => hl x (.inr (.inr (hrl x hx))))
    · exact h7.same hnl gl (fun c hc => hl c (.inr (.inr hc)))

theorem sg_node {t : LT} (h : Sg t) : ∃ n i e m l, t = node n i e m l nil := by
  cases t with
  | nil => exact h.elim
  | node n i e m l r =>
    have hr : r = nil := h
    subst hr
    exact ⟨n, i, e, m, l, rfl⟩

/-- One tree stands below another one. -/
theorem Rep.under {α β : AS} {t s : LT} {up us : Int} (ht : Sg t) (hs : Sg s) (h1 : Rep α up t) (h2 : Rep α us s) (hn : (cells t ++ cells s).Nodup)
    (hr : RgL β (insL (rts (kids t)) (rt1 s))) (g1 : β.get (rt1 t) 1 = hd1 (insL (rts (kids t)) (rt1 s))) (g4 : β.get (rt1 t) 4 = ((rank t + 1 : Nat) : Int)) (g0 : β.get (rt1 s) 0 = (rt1 t : Int)) (g5 : β.get (rt1 s) 5 = 0)
    (hg : ∀ x f, ¬ (x = rt1 t ∧ (f = 1 ∨ f = 4)) → ¬ (x = rt1 s ∧ (f = 0 ∨ f = 5)) → ¬ ((x = rt1 s ∨ x ∈ rts (kids t)) ∧ (f = 2 ∨ f = 3)) → β.get x f = α.get x f) (hl : β.live = α.live) : Rep β up (LT.under t s) := by
  obtain ⟨n, i, e, m, l, rfl⟩ := sg_node ht
  obtain ⟨k1, k2, k3⟩ := List.nodup_append.1 hn
  have hn1 := k1
  simp only [cells, List.append_nil, List.nodup_cons, List.mem_cons, not_or] at hn1
  obtain ⟨⟨ni, nl⟩, il, hnl⟩ := hn1
  obtain ⟨q1, q2, q3, q4, q5, q6, q7, _⟩ := h1
  have hin := ins_sg (l := l) hs
  have hsm := rt1_mem hs
  have hrl : ∀ x ∈ rts l, x ∈ cells l := fun x hx => mem_nds (mem_rts hx)
  have dn : n ≠ rt1 s := fun e => k3 n (by simp [cells]) _ hsm e
  have di : i ≠ rt1 s := fun e => k3 i (by simp [cells]) _ hsm e
  have dl : ∀ x ∈ cells l, x ≠ rt1 s := fun x hx e => k3 x (by simp [cells, hx]) _ hsm e
  simp only [rt1, kids] at hr g1 g4 g0 hg
  have gn : ∀ f, f ≠ 1 → f ≠ 4 → β.get n f = α.get n f := fun f h1 h4 => hg n f (by omega) (fun e => dn e.1) (fun e => by
    rcases e.1 with h | h
    · exact dn h
    · exact nl (hrl n h))
  have gi : ∀ f, β.get i f = α.get i f := fun f => hg i f (fun e => ni e.1.symm) (fun e => di e.1) (fun e => by
    rcases e.1 with h | h
    · exact di h
    · exact il (hrl i h))
  have er : rts (glue (insL (row l) (LT.unm s))) = insL (rts l) (rt1 s) := by rw [rts_glue hin, insL_map, rts_row, unm_rt1]
  refine ⟨⟨by rw [hl]; exact q1.ln, by rw [hl]; exact q1.li, (gn 6 (by decide) (by decide)).trans q1.it, (gi 9).trans q1.nd, (gi 7).trans q1.k, (gi 8).trans q1.s⟩, (gn 0 (by decide) (by decide)).trans q2, ?_, ?_, (gn 5 (by decide) (by decide)).trans q5, ?_, ?_, trivial⟩
  · rw [root_hd, er]; exact g1
  · rw [g4]
    have e2 : rk (glue (insL (row l) (LT.unm s))) = rk l + 1 := by rw [rk_glue hin, (insL_perm _ _).length_eq, List.length_cons, row_len]
    show ((rk l + 1 : Nat) : Int) = _
    rw [← e2]
  · rw [er]; exact hr
  · rw [rep_glue hin]
    intro x hx
    rcases List.mem_cons.1 ((insL_perm _ _).mem_iff.1 hx) with rfl | hx
    · refine h2.unm hs k2 g0 g5 (fun c hc f hf => ?_) (fun c _ => by rw [hl])
      refine hg c f (fun e => k3 n (by simp [cells]) c hc e.1.symm) (fun e => ?_) (fun e => ?_)
      · have := hf e.1; rcases e.2 with h | h <;> omega
      · rcases e.1 with h | h
        · have := hf h; rcases e.2 with h | h <;> omega
        · exact k3 c (by simp [cells, hrl c h]) c hc rfl
    · refine (rep_row.1 (q7.congr (β := β) hnl (fun c hc f hf => ?_) (fun c _ => by rw [hl]))) x hx
      refine hg c f (fun e => nl (e.1 ▸ hc)) (fun e => dl c hc e.1) (fun e => ?_)
      rcases e.1 with h | h
      · exact dl c hc h
      · have := hf h; rcases e.2 with h | h <;> omega

/-- Trees that stand beside each other, in whatever order. -/
structure Tops (α : AS) (ts : List LT) : Prop where
  sg : ∀ t ∈ ts, Sg t
  rep : RepL α (-1) ts
  nd : (cellsL ts).Nodup
  rg : ∃ L, L.Perm (ts.map rt1) ∧ RgL α L
theorem Tops.perm {α : AS} {ts us : List LT} (h : Tops α ts) (hp : ts.Perm us) : Tops α us :=
  ⟨fun t ht => h.sg t (hp.mem_iff.2 ht), fun t ht => h.rep t (hp.mem_iff.2 ht), (cellsL_perm hp).nodup_iff.1 h.nd, by
    obtain ⟨L, h1, h2⟩ := h.rg
    exact ⟨L, h1.trans (hp.map _), h2⟩⟩
theorem RgL.rot {α : AS} {L : List Nat} {x : Nat} (h : RgL α L) (hx : x ∈ L) : ∃ q, α.Ring x q ∧ (x :: q).Perm L := by
  obtain ⟨p, q, rfl⟩ := List.append_of_mem hx
  exact ⟨q ++ p, ring_at h, List.Perm.trans (by rw [← List.cons_append]; exact List.perm_append_comm) (List.Perm.refl _)⟩
theorem rt1_cells {ts : List LT} {t : LT} (h : t ∈ ts) : ∀ x ∈ cells t, x ∈ cellsL ts := fun x hx => List.mem_flatMap.2 ⟨t, h, hx⟩
theorem cellsL_dis : ∀ {ts : List LT}, (cellsL ts).Nodup → ∀ x ∈ ts, ∀ y ∈ ts, ∀ c, c ∈ cells x → c ∈ cells y → x = y
  | [], _, x, hx, _, _, _, _, _ => by cases hx
  | t :: ts, hn, x, hx, y, hy, c, h1, h2 => by
    simp only [cellsL, List.flatMap_cons] at hn
    obtain ⟨n1, n2, n3⟩ := List.nodup_append.1 hn
    rcases List.mem_cons.1 hx with hx | hx <;> rcases List.mem_cons.1 hy with hy | hy
    · rw [hx, hy]
    · rw [hx] at h1; exact absurd rfl (n3 c h1 c (List.mem_flatMap.2 ⟨y, hy, h2⟩))
    · rw [hy] at h2; exact absurd rfl (n3 c h2 c (List.mem_flatMap.2 ⟨x, hx, h1⟩))
    · exact cellsL_dis n2 x hx y hy c h1 h2
theorem Tops.at {α : AS} {ts : List LT} {x : LT} (h : Tops α ts) (hx : x ∈ ts) : ∃ us, (x :: us).Perm ts ∧ α.Ring (rt1 x) (us.map rt1) := by
  obtain ⟨L, h1, h2⟩ := h.rg
  obtain ⟨q, h3, h4⟩ := h2.rot (h1.mem_iff.2 (List.mem_map_of_mem (f := rt1) hx))
  obtain ⟨P, p1, p2⟩ := perm_lift rt1 (h4.trans h1).symm ts rfl
  cases P with
  | nil => cases p2
  | cons y us =>
    simp only [List.map_cons, List.cons.injEq] at p2
    have hy : y ∈ ts := p1.mem_iff.1 List.mem_cons_self
    have e : y = x := cellsL_dis h.nd y hy x hx (rt1 x) (by rw [← p2.1]; exact rt1_mem (h.sg y hy)) (rt1_mem (h.sg x hx))
    subst e
    exact ⟨us, p1, by rw [p2.2]; exact h3⟩
theorem Tops.live {α : AS} {ts : List LT} (h : Tops α ts) : ∀ c ∈ cellsL ts, α.live c = true := fun c hc => by
  obtain ⟨t, ht, hc⟩ := List.mem_flatMap.1 hc
  exact (h.rep t ht).live c hc
/-- What stands besides the rings of the tops is as it was. -/
theorem repL_congr {α β : AS} {up : Int} {ts : List LT} (h : RepL α up ts) (hs : ∀ t ∈ ts, Sg t) (hn : (cellsL ts).Nodup) (hg : ∀ c ∈ cellsL ts, ∀ f, (c ∈ ts.map rt1 → f ≠ 2 ∧ f ≠ 3) → β.get c f = α.get c f) (hl : ∀ c ∈ cellsL ts, β.live c = α.live c) : RepL β up ts := fun t ht => by
  have hnt : (cells t).Nodup := by
    obtain ⟨p, q, rfl⟩ := List.append_of_mem ht
    simp only [cellsL, List.flatMap_append, List.flatMap_cons] at hn
    exact (List.nodup_append.1 (List.nodup_append.1 hn).2.1).1
  refine (h t ht).congr hnt (fun c hc f hf => hg c (rt1_cells ht c hc) f fun hm => hf ?_) (fun c hc => hl c (rt1_cells ht c hc))
  obtain ⟨u, hu, rfl⟩ := List.mem_map.1 hm
  have e := cellsL_dis hn u hu t ht (rt1 u) (rt1_mem (hs u hu)) hc
  subst e
  rw [rts_sg (hs u hu)]
  exact List.mem_cons_self
end LT
end Go.Proofs.YtbkicgfgpmekeaaGreat.HL

/-
  FbY: Fibonacci heaps: trees come to trees of unlike ranks: the walk.
-/
set_option linter.unusedVariables false
set_option linter.unusedSimpArgs false
set_option maxRecDepth 100000
namespace Go.Proofs.YtbkicgfgpmekeaaGreat.HL
open Go.RowKit (Below)
open Go.Proofs
open Go.Proofs.YtbkicgfgpmekeaaGreat.HL.LT

namespace LT
theorem its_ne {t : LT} (h : Sg t) : 1 ≤ (its t).length := by
  cases t with
  | nil => exact h.elim
  | node n i e m l r => simp [its]
theorem cellsL_len : ∀ (ts : List LT), (cellsL ts).length = 2 * (itsL ts).length
  | [] => rfl
  | t :: ts => by
    have := cellsL_len ts
    simp only [cellsL, itsL] at this
    simp only [cellsL, itsL, List.flatMap_cons, List.length_append, cells_len, this]; omega
theorem len_itsL : ∀ {ts : List LT}, (∀ t ∈ ts, Sg t) → ts.length ≤ (itsL ts).length
  | [], _ => Nat.le_refl _
  | t :: ts, h => by
    have h1 := its_ne (h t List.mem_cons_self)
    have h2 := len_itsL (ts := ts) fun t ht => h t (List.mem_cons_of_mem _ ht)
    simp only [itsL] at h2
    simp only [itsL, List.flatMap_cons, List.length_append, List.length_cons]; omega
theorem rank_lt {t : LT} (h : Sg t) : rank t + 1 ≤ (its t).length := by
  cases t with
  | nil => exact h.elim
  | node n i e m l r =>
    have := rk_le l
    rw [sz_its] at this
    simp only [rank, kids, its, List.length_cons, List.length_append]; omega
theorem its_itsL {ts : List LT} {t : LT} (h : t ∈ ts) : (its t).length ≤ (itsL ts).length := by
  obtain ⟨p, q, rfl⟩ := List.append_of_mem h
  simp only [itsL, List.flatMap_append, List.flatMap_cons, List.length_append]; omega
/-- What bounds these numbers. -/
theorem small_of {α : AS} (hi : α.Inv) {ts : List LT} (hs : ∀ t ∈ ts, Sg t) (hl : ∀ c ∈ cellsL ts, α.live c = true) (hn : (cellsL ts).Nodup) : ts.length ≤ 32768 ∧ ∀ t ∈ ts, rank t ≤ 32768 ∧ rt1 t < 65536 := by
  have h1 := nodup_len α.n _ hn fun x hx => AS.live_lt hi (hl x hx)
  rw [cellsL_len] at h1
  have h2 := len_itsL hs
  have h3 := hi.n
  refine ⟨by omega, fun t ht => ⟨?_, ?_⟩⟩
  · have h4 := rank_lt (hs t ht)
    have h5 := its_itsL ht
    omega
  · have := AS.live_lt hi (hl _ (rt1_cells ht _ (rt1_mem (hs t ht))))
    omega
def rkP (ts : List LT) : List (Nat × Nat) := ts.map fun t => (rt1 t, rank t)
theorem rkP_app (ts us : List LT) : rkP (ts ++ us) = rkP ts ++ rkP us := by simp [rkP]
theorem rkP_get {ts : List LT} {i : Nat} {t : LT} (h : ts[i]? = some t) : (rkP ts)[i]? = some (rt1 t, rank t) := by
  rw [rkP, List.getElem?_map, h]; rfl
theorem rkP_erase (ts : List LT) (i : Nat) : (rkP ts).eraseIdx i = rkP (ts.eraseIdx i) := by
  simp only [rkP, List.eraseIdx_eq_take_drop_succ, List.map_append, List.map_take, List.map_drop]
theorem flatR_wf {l : List (Nat × Nat)} (h : ∀ p ∈ l, p.1 < 65536 ∧ p.2 ≤ 32768) : ∀ n ∈ flatR l, (Lit.int .i64 n).wf = true := fun n hn => by
  obtain ⟨p, hp, hn⟩ := List.mem_flatMap.1 hn
  have := h p hp
  simp only [List.mem_cons, List.not_mem_nil, or_false] at hn
  rcases hn with rfl | rfl <;> exact wf64 (by unfold In64; omega)
theorem Chg_rep {S : Nat → Prop} {k : Int} {α β : AS} {up : Int} {t : LT} (h : Rep α up t) (hc : AS.Chg S k α β) (hn : (cells t).Nodup) (hd : ∀ c ∈ cells t, ¬ S c) : Rep β up t :=
  h.same hn (fun c hm f => hc.get c (hd c hm) f) (fun c _ => by rw [hc.live])
end LT

section
variable {w0 : World} {M F : Mem} {R : Value → Mem → Prop} {a : Nat} {α : AS}

theorem pushR {Q : Asn} {K : SV → Mem → Prop} {s : SV} {l : List (Nat × Nat)} {p : Nat × Nat} (hH : Holds w0 F M (star (SlKA 2 s (rkV l)) Q)) (hb : s.n ≤ 100000) (h : ∀ M' s', Holds w0 F M' (star (SlKA 2 s' (rkV (l ++ [p]))) Q) → K s' M') :
    (std PP w0).bsl 109 1 [(0, .agg #[.int .i64 (p.1 : Int), .int .i64 (p.2 : Int)])] (fun v M1 => shS v fun s1 => (std PP w0).app #[109, 109] 109 [SV.v s, SV.v s1] (fun v2 M2 => shS v2 fun s2 => K s2 M2) M1) M := by
  obtain ⟨F', h1, h2, h3⟩ := hH.slk
  refine bsl_e (cells := #[.int .i64 (p.1 : Int), .int .i64 (p.2 : Int)]) Tryz.underlying109 W.e111 (by decide) (by kernel_rfl) fun b hb0 hw => ?_
  have hF : F' b = none := le_none h2 hb0
  have l1 : Mem.le F' (M.set b (.row (#[.int .i64 (p.1 : Int), .int .i64 (p.2 : Int)] : Array Value).toList 111)) := le_put h2 hF
  have hown : Own w0 (M.set b (.row (#[.int .i64 (p.1 : Int), .int .i64 (p.2 : Int)] : Array Value).toList 111)) b [.int .i64 (p.1 : Int), .int .i64 (p.2 : Int)] 111 := Own.new hw
  have hs1 := h1.le (Mem.le_set (.row (#[.int .i64 (p.1 : Int), .int .i64 (p.2 : Int)] : Array Value).toList 111) hb0)
  rw [shS_v]
  refine app_slk (k := 2) (x := ⟨some ⟨b, 0, none⟩, 1, 1⟩) Tryz.underlying109 W.e111 l1 hs1 (news := rkV [p]) (by rw [rkV_len]; rfl) (Cells.own hown fun j v hv => by rw [Nat.zero_add]; exact hv) (fun e => by cases e) rkV_one (by decide) (by show s.n + 1 ≤ _; omega) fun M' s' hl hs' hn' => ?_
  rw [shS_sv]
  rw [← rkV_app] at hs'
  exact h M' s' (h3 M' s' _ hs' hl)

theorem unlike_ok (hA : Holds w0 F M (arenaA a α)) {s : SV} {xs : List LT} (hs : RdI w0 F .i64 s (intsN (xs.map rt1))) (hsg : ∀ t ∈ xs, Sg t) (hrep : RepL α (-1) xs) (hnd : (cellsL xs).Nodup)
    (h0 : xs = [] → ∀ M', Holds w0 F M' (arenaA a α) → R (.int .i64 (-1)) M')
    (h : ∀ M' β x, Holds w0 F M' (arenaA a β) → Tops β (unl [] xs) → x ∈ unl [] xs → (∀ y ∈ unl [] xs, y = x ∨ Bf (top x) (top y)) → AS.Chg (fun c => c ∈ cellsL xs) (19 * (xs.length : Int) - 5 * ((unl [] xs).length : Int)) α β → R (.int .i64 (rt1 x : Int)) M') :
    C PP w0 Id.fib_unlike #[.pointer (some ⟨a, 0, none⟩), SV.v s] R M := by
  apply fib_unlike.go
  intro pts H
  unfold fib_unlike.T
  have hsl : s.n = xs.length := by rw [hs.len]; simp [intsN]
  have hlive : ∀ c ∈ cellsL xs, α.live c = true := fun c hc => by
    obtain ⟨t, ht, hc⟩ := List.mem_flatMap.1 hc
    exact (hrep t ht).live c hc
  have hxsm := small_of hA.inv hsg hlive hnd
  -- one is put below another one
  have link : ∀ (k k' : Nat) (t15 : SV) (t16 t17 : Int) (ts : List LT) (t u x : LT) (sB : SV) (bx : Nat) (M' : Mem) (γ : AS), Sg t → Sg u → (cells t ++ cells u).Nodup → Rep γ (-1) t → Rep γ (-1) u → rank t = rank x → rank x ≤ 32768 →
      Holds w0 F M' (star (SlKA 2 sB (rkV (rkP ts))) (star (row1 bx [.int .i64 (rt1 x : Int), .int .i64 (rank x : Int)] 111) (arenaA a γ))) →
      (∀ M'' δ, Holds w0 F M'' (star (SlKA 2 sB (rkV (rkP ts))) (star (row1 bx [.int .i64 (rt1 t : Int), .int .i64 ((rank t + 1 : Nat) : Int)] 111) (arenaA a δ))) → Rep δ (-1) (LT.under t u) → AS.Chg (fun c => c ∈ cells t ∨ c ∈ cells u) 12 γ δ → fib_unlike.L2 pts k k' (some ⟨a, 0, none⟩) sB ⟨bx, 0, none⟩ t15 t16 t17 M'') →
      fib_unlike.J4 pts k k' (some ⟨a, 0, none⟩) sB ⟨bx, 0, none⟩ (rt1 t : Int) (rt1 u : Int) t15 t16 t17 M' := by
    intro k k' t15 t16 t17 ts t u x sB bx M' γ hst hsu hnn hrt hru hrk hsm hH hfin
    rw [H.J4]
    unfold fib_unlike.J4.T
    obtain ⟨n, i, e, m, l, rfl⟩ := sg_node hst
    obtain ⟨F1, hA1, hle1, back1⟩ := hH.last3
    obtain ⟨k1, k2, k3⟩ := List.nodup_append.1 hnn
    obtain ⟨q1, q2, q3, q4, q5, q6, q7, _⟩ := hrt
    have hul : γ.live (rt1 u) = true := hru.live _ (rt1_mem hsu)
    have hum := rt1_mem hsu
    have hlc : ∀ c ∈ rts l, c ∈ cells l := fun c hc => mem_nds (mem_rts hc)
    have dn : n ≠ rt1 u := fun e => k3 n (by simp [cells]) _ hum e
    have hul2 : rt1 u ∉ rts l := fun hm => k3 (rt1 u) (by simp [cells, hlc _ hm]) _ hum rfl
    refine under_ok hA1 (u := n) (n := rt1 u) (ks := rts l) q1.ln hul (by rw [q3, root_hd]) q6 hul2 dn fun M2 β hB hr1 g1 g0 g5 hg hc => ?_
    have hH2 := back1 M2 _ hB
    have hown := Holds.own1 hH2.rot
    have e1 : rd w0 M2 ⟨bx, 1, none⟩ = some (.int .i64 (rank x : Int)) := rd_own (o := 1) hown
    simp only [go_sem, add_eq, Nat.zero_add, e1]
    rw [w64_in (by omega), show ((rank x : Nat) : Int) + 1 = ((rank (LT.node n i e m l nil) + 1 : Nat) : Int) from by rw [hrk]; omega]
    refine st_agg (vs := [.int .i64 (n : Int), .int .i64 ((rank (LT.node n i e m l nil) + 1 : Nat) : Int)]) W.g111 hown (by simp) (by intro v hv; simp only [List.mem_cons, List.not_mem_nil, or_false] at hv; rcases hv with rfl | rfl <;> rfl) ?_
    have hH3 := (Holds.upd1 hH2.rot (cs' := over [.int .i64 (rt1 x : Int), .int .i64 (rank x : Int)] 0 [.int .i64 (n : Int), .int .i64 ((rank (LT.node n i e m l nil) + 1 : Nat) : Int)]) (e' := 111)).rot
    change Holds w0 F _ (star (SlKA 2 sB (rkV (rkP ts))) (star (row1 bx [.int .i64 (n : Int), .int .i64 ((rank (LT.node n i e m l nil) + 1 : Nat) : Int)] 111) (arenaA a β))) at hH3
    generalize M2.set bx _ = M3 at hH3 ⊢
    have hown3 := Holds.own1 hH3.rot
    have e3 : rd w0 M3 ⟨bx, 1, none⟩ = some (.int .i64 ((rank (LT.node n i e m l nil) + 1 : Nat) : Int)) := rd_own (o := 1) hown3
    simp only [go_sem, e3]
    obtain ⟨F3, hA3, hle3, back3⟩ := hH3.last3
    have lnb : β.live n = true := by rw [hc.live]; exact q1.ln
    refine Set_ok hA3 fun M4 hA4 => ?_
    rw [show β.setI ((rt1 (LT.node n i e m l nil) : Nat) : Int) 4 ((rank (LT.node n i e m l nil) + 1 : Nat) : Int) = β.put n 4 ((rank (LT.node n i e m l nil) + 1 : Nat) : Int) from AS.setI_live (c := n) (f := 4) lnb (by omega) _] at hA4
    simp only [shB_v]
    have g4 : ∀ y f, (β.put n 4 ((rank (LT.node n i e m l nil) + 1 : Nat) : Int)).tick.get y f = if y = n ∧ f = 4 then ((rank (LT.node n i e m l nil) + 1 : Nat) : Int) else β.get y f := fun y f => rfl
    refine hfin M4 _ (back3 M4 _ hA4) (Rep.under (α := γ) hst hsu ⟨q1, q2, q3, q4, q5, q6, q7, trivial⟩ hru hnn ?_ ?_ ?_ ?_ ?_ (fun y f h1 h2 h3 => ?_) hc.live) (((hc.mono (T := fun c => c ∈ cells (LT.node n i e m l nil) ∨ c ∈ cells u) (fun c hc => ?_) (Int.le_refl _)).put (c := n) (f := 4) (.inl (by simp [cells]))).tick.mono (fun _ h => h) (by omega))
    · exact hr1.congr (fun y _ => by rw [g4, if_neg (by omega)]) (fun y _ => by rw [g4, if_neg (by omega)]) (fun y _ => rfl)
    · rw [g4, if_neg (by omega)]; exact g1
    · rw [g4]; exact if_pos ⟨rfl, rfl⟩
    · rw [g4, if_neg (by omega)]; exact g0
    · rw [g4, if_neg (by omega)]; exact g5
    · simp only [rt1, kids] at h1 h3
      rw [g4, if_neg (fun e => h1 ⟨e.1, .inr e.2⟩)]
      exact hg y f (fun e => h1 ⟨e.1, .inl e.2⟩) h2 h3
    · rcases hc with rfl | rfl | hc
      · exact .inl (by simp [cells])
      · exact .inr hum
      · exact .inl (by simp [cells, hlc c hc])
  -- a tree comes to the others
  have inner : ∀ (k : Nat) (t15 : SV) (t16 t17 : Int) (bx : Nat) (k' : Nat) (ts : List LT) (x : LT) (sB : SV) (M' : Mem) (γ : AS), ts.length < k' → (∀ t ∈ ts, Sg t) → Sg x → (cellsL ts ++ cells x).Nodup → RepL γ (-1) ts → Rep γ (-1) x →
      Holds w0 F M' (star (SlKA 2 sB (rkV (rkP ts))) (star (row1 bx [.int .i64 (rt1 x : Int), .int .i64 (rank x : Int)] 111) (arenaA a γ))) →
      (∀ M'' s' δ, Holds w0 F M'' (star (SlKA 2 s' (rkV (rkP (addU ts.length ts x)))) (arenaA a δ)) → RepL δ (-1) (addU ts.length ts x) → AS.Chg (fun c => c ∈ cellsL ts ∨ c ∈ cells x) (18 * ((ts.length : Int) + 1 - ((addU ts.length ts x).length : Int))) γ δ → fib_unlike.L1 pts k (some ⟨a, 0, none⟩) s' t15 t16 (w64 (t17 + 1)) M'') →
      fib_unlike.L2 pts k k' (some ⟨a, 0, none⟩) sB ⟨bx, 0, none⟩ t15 t16 t17 M' := by
    intro k t15 t16 t17 bx k'
    induction k' with
    | zero => intro ts x sB M' γ h1; omega
    | succ k' ih =>
      intro ts x sB M' γ hk hst hsx hnn hrt hrx hH hfin
      rw [H.L2]
      unfold fib_unlike.L2.T
      obtain ⟨n1, n2, n3⟩ := List.nodup_append.1 hnn
      have hI := hH.right.right.inv
      have hsm := small_of hI (ts := x :: ts) (fun t ht => by rcases List.mem_cons.1 ht with rfl | ht; exact hsx; exact hst t ht) (fun c hc => by
        simp only [cellsL, List.flatMap_cons, List.mem_append] at hc
        rcases hc with hc | hc
        · exact hrx.live c hc
        · obtain ⟨t, ht, hc⟩ := List.mem_flatMap.1 hc
          exact (hrt t ht).live c hc) (by
        simp only [cellsL, List.flatMap_cons]
        exact List.perm_append_comm.nodup_iff.1 hnn)
      have hsmx := hsm.2 x List.mem_cons_self
      have hsmt : ∀ t ∈ ts, rank t ≤ 32768 ∧ rt1 t < 65536 := fun t ht => hsm.2 t (List.mem_cons_of_mem _ ht)
      have hlen := hsm.1
      simp only [List.length_cons] at hlen
      have hsB : sB.n = ts.length := by
        obtain ⟨F1, g1, _⟩ := hH.slk
        have := g1.len
        rw [rkV_len] at this
        simp only [rkP, List.length_map] at this
        omega
      have hrd : RdF w0 M' 2 sB (flatR (rkP ts)) := by
        have hH' := hH
        rw [rkV_flat] at hH'
        exact Holds.rdF (by decide) hH' (flatR_wf fun p hp => by
          obtain ⟨t, ht, rfl⟩ := List.mem_map.1 hp
          exact ⟨(hsmt t ht).2, (hsmt t ht).1⟩) (by omega)
      have hown := Holds.own1 hH.rot
      have hx1 : ∀ M2, Mem.le M' M2 → rd w0 M2 ⟨bx, 1, none⟩ = some (.int .i64 (rank x : Int)) := fun M2 hl => rd_own (o := 1) (hown.le hl)
      have hx0 : ∀ M2, Mem.le M' M2 → rd w0 M2 ⟨bx, 0, none⟩ = some (.int .i64 (rt1 x : Int)) := fun M2 hl => rd_own (o := 0) (hown.le hl)
      refine IdxR_ok (r := rank x) (b := bx) hrd (by rw [hsB]; simp [rkP]) (by simp [rkP]; omega) hx1 (fun hno M1 l1 => ?_) (fun i p hp hpr hfirst M1 l1 => ?_)
      · have hf : ts.findIdx? (like x) = none := by
          rw [List.findIdx?_eq_none_iff]
          intro t ht
          exact decide_eq_false (hno _ (List.mem_map_of_mem (f := fun t => (rt1 t, rank t)) ht))
        rw [addU_none hf] at hfin
        have hx8 : (std PP w0).ld 111 ⟨bx, 0, none⟩ M1 = some (.agg #[.int .i64 (rt1 x : Int), .int .i64 (rank x : Int)]) := ld_agg (cs := [.int .i64 (rt1 x : Int), .int .i64 (rank x : Int)]) W.g111 (fun j v hj => by rw [add_eq, rd_own (hown.le l1), Nat.zero_add]; exact hj)
        simp only [shI_v]
        rw [bs_decide, if_pos (by omega)]
        simp only [hx8, ob_v, shA_v, shCons_v, shI_v, shNil_v]
        refine pushR (p := (rt1 x, rank x)) (K := fun s37 M36 => fib_unlike.L1 pts k (some ⟨a, 0, none⟩) s37 t15 t16 (w64 (t17 + 1)) M36) (hH.le l1) (by omega) fun M2 s2 hH2 => ?_
        rw [show rkP ts ++ [(rt1 x, rank x)] = rkP (ts ++ [x]) from by simp [rkP]] at hH2
        refine hfin M2 s2 γ (by
          obtain ⟨r, ⟨r1, r2, rfl, h1, r3, r4, rfl, h2, h3⟩, h4⟩ := hH2
          exact ⟨r1 ++ r4, ⟨r1, r4, rfl, h1, h3⟩, (h4.perm (r' := (r1 ++ r4) ++ r3) (by rw [List.append_assoc]; exact (List.perm_append_comm).append_left r1)).drop⟩) (fun t ht => ?_) (AS.Chg.refl.mono (fun _ h => h) (by simp))
        rcases List.mem_append.1 ht with ht | ht
        · exact hrt t ht
        · simp only [List.mem_cons, List.not_mem_nil, or_false] at ht
          subst ht; exact hrx
      · have hi : i < ts.length := by
          have := (List.getElem?_eq_some_iff.1 hp).1
          simpa [rkP] using this
        have hy := List.getElem?_eq_getElem hi
        generalize ts[i] = y at hy
        have hpe := rkP_get hy
        rw [hp] at hpe
        cases hpe
        simp only at hpr
        have hf : ts.findIdx? (like x) = some i := by
          rw [List.findIdx?_eq_some_iff_getElem]
          refine ⟨hi, ?_, fun j hj => ?_⟩
          · rw [List.getElem?_eq_getElem hi] at hy
            cases hy
            exact decide_eq_true hpr
          · have hj2 : j < ts.length := by omega
            have := hfirst j _ hj (rkP_get (List.getElem?_eq_getElem hj2))
            simp only [like, decide_eq_true_eq]
            exact this
        have hym := List.mem_of_getElem? hy
        have hsy := hst y hym
        obtain ⟨kk, hkk⟩ : ∃ kk, ts.length = kk + 1 := ⟨ts.length - 1, by omega⟩
        have hlE : (ts.eraseIdx i).length = kk := by rw [List.length_eraseIdx_of_lt hi]; omega
        have hperm : (cellsL ts).Perm (cells y ++ cellsL (ts.eraseIdx i)) := cellsL_perm (erase_permL hy)
        have hn1 : (cellsL (ts.eraseIdx i) ++ (cells y ++ cells x)).Nodup := by
          refine (List.Perm.trans ?_ (hperm.symm.append_right _)).nodup_iff.2 hnn
          rw [← List.append_assoc]
          exact List.perm_append_comm.append_right _
        obtain ⟨o1, o2, o3⟩ := List.nodup_append.1 hn1
        have hyx := o2
        rw [hkk, addU_some hf hy, ← hlE] at hfin
        simp only [shI_v]
        rw [bs_decide, if_neg (by omega)]
        refine rdf0L W.c3 hrd l1 i rfl (by omega) (flatR_get (rkP_get hy) 0 _ rfl) ?_
        simp only [ld_one W.c3, hx0 _ l1, ob_v, shI_v]
        refine ⟨trivial, ?_⟩
        rw [i64_succ (by omega)]
        refine DelR_ok (hH.le l1) (by simp [rkP]; omega) (by simp [rkP]; omega) fun M2 s2 hH2 => ?_
        rw [rkP_erase] at hH2
        rw [shS_sv]
        obtain ⟨F3, hA3, hle3, back3⟩ := hH2.last3
        obtain ⟨yn, yi, ye, ym, yl, rfl⟩ := sg_node hsy
        obtain ⟨xn, xi, xe, xm, xl, rfl⟩ := sg_node hsx
        have hry := hrt _ hym
        refine nBefore_ok hA3 hrx.1 hry.1 fun M4 δ hA4 hs4 => ?_
        have hH4 := back3 M4 _ hA4
        have hc4 : AS.Chg (fun _ => False) 6 γ δ := hs4.chg
        have hrx4 := Chg_rep hrx hc4 n2 (fun _ _ h => h)
        have hrt4 : RepL δ (-1) ts := repL_congr hrt hst n1 (fun c _ f _ => hc4.get c (fun h => h) f) (fun c _ => by rw [hc4.live])
        have hry4 := hrt4 _ hym
        -- behind the link
        have fin2 : ∀ (M5 : Mem) (ε : AS), Holds w0 F M5 (star (SlKA 2 s2 (rkV (rkP (ts.eraseIdx i)))) (star (row1 bx [.int .i64 (rt1 (lkF (node yn yi ye ym yl nil) (node xn xi xe xm xl nil)) : Int), .int .i64 (rank (lkF (node yn yi ye ym yl nil) (node xn xi xe xm xl nil)) : Int)] 111) (arenaA a ε))) → Rep ε (-1) (lkF (node yn yi ye ym yl nil) (node xn xi xe xm xl nil)) →
            AS.Chg (fun c => c ∈ cells (node yn yi ye ym yl nil) ∨ c ∈ cells (node xn xi xe xm xl nil)) 12 δ ε → fib_unlike.L2 pts k k' (some ⟨a, 0, none⟩) s2 ⟨bx, 0, none⟩ t15 t16 t17 M5 := by
          intro M5 ε hH5 hr5 hc5
          have hlk := lkF_its (t := node yn yi ye ym yl nil) (s := node xn xi xe xm xl nil) hsy hsx
          have hrE : RepL ε (-1) (ts.eraseIdx i) := repL_congr (fun t ht => hrt4 t (List.mem_of_mem_eraseIdx ht)) (fun t ht => hst t (List.mem_of_mem_eraseIdx ht)) o1 (fun c hc f _ => hc5.get c (fun h => by
            rcases h with h | h
            · exact o3 c hc c (List.mem_append_left _ h) rfl
            · exact o3 c hc c (List.mem_append_right _ h) rfl) f) (fun c _ => by rw [hc5.live])
          refine ih (ts.eraseIdx i) _ s2 M5 ε (by omega) (fun t ht => hst t (List.mem_of_mem_eraseIdx ht)) (lkF_sg hsy hsx) ((hlk.2.2.append_left _).nodup_iff.2 hn1) hrE hr5 hH5 fun M6 s6 ζ hH6 hr6 hc6 => ?_
          refine hfin M6 s6 ζ hH6 hr6 (((hc4.mono (T := fun c => c ∈ cellsL ts ∨ c ∈ cells (node xn xi xe xm xl nil)) (fun _ h => h.elim) (Int.le_refl _)).trans ((hc5.mono (fun c hc => ?_) (Int.le_refl _)).trans (hc6.mono (fun c hc => ?_) (Int.le_refl _)))).mono (fun _ h => h) ?_)
          · rcases hc with hc | hc
            · exact .inl (hperm.mem_iff.2 (List.mem_append_left _ hc))
            · exact .inr hc
          · rcases hc with hc | hc
            · exact .inl (hperm.mem_iff.2 (List.mem_append_right _ hc))
            · rcases List.mem_append.1 (hlk.2.2.mem_iff.1 hc) with hc | hc
              · exact .inl (hperm.mem_iff.2 (List.mem_append_left _ hc))
              · exact .inr hc
          · rw [hlE]; omega
        have hrl : rank (LT.lkF (node yn yi ye ym yl nil) (node xn xi xe xm xl nil)) = rank (node xn xi xe xm xl nil) + 1 := lkF_rank hsy hsx hpr
        simp only [shB_v, bs_decide]
        split
        · rename_i hb
          refine link k k' t15 t16 t17 (ts.eraseIdx i) (node xn xi xe xm xl nil) (node yn yi ye ym yl nil) (node xn xi xe xm xl nil) s2 bx M4 δ hsx hsy (List.perm_append_comm.nodup_iff.1 hyx) hrx4 hry4 rfl hsmx.1 hH4 fun M5 ε hH5 hr5 hc5 => ?_
          have elk : LT.lkF (node yn yi ye ym yl nil) (node xn xi xe xm xl nil) = LT.under (node xn xi xe xm xl nil) (node yn yi ye ym yl nil) := if_pos hb
          refine fin2 M5 ε ?_ (by rw [elk]; exact hr5) (hc5.mono (fun c hc => hc.symm) (Int.le_refl _))
          rw [hrl, elk]
          exact hH5
        · rename_i hb
          refine link k k' t15 t16 t17 (ts.eraseIdx i) (node yn yi ye ym yl nil) (node xn xi xe xm xl nil) (node xn xi xe xm xl nil) s2 bx M4 δ hsy hsx hyx hry4 hrx4 hpr hsmx.1 hH4 fun M5 ε hH5 hr5 hc5 => ?_
          have elk : LT.lkF (node yn yi ye ym yl nil) (node xn xi xe xm xl nil) = LT.under (node yn yi ye ym yl nil) (node xn xi xe xm xl nil) := if_neg hb
          refine fin2 M5 ε ?_ (by rw [elk]; exact hr5) hc5
          rw [hrl, elk, ← hpr]
          exact hH5
  -- the ring of those that are left
  have hS0 : ∀ (ts : List LT), (cellsL ts).Perm (cellsL xs) → ∀ c ∈ cellsL ts, c ∈ cellsL xs := fun ts hp c hc => hp.mem_iff.1 hc
  have final : ∀ (b0 : LT) (ts : List LT) (sB : SV), ts = unl [] xs → (∀ t ∈ ts, Sg t) → (cellsL ts).Perm (cellsL xs) → ts.length ≤ 32768 → (∀ t ∈ ts, rank t ≤ 32768 ∧ rt1 t < 65536) → ∀ (q p : List LT) (x : LT) (M' : Mem) (γ : AS), ts = (b0 :: p) ++ q → x ∈ b0 :: p → (∀ y ∈ b0 :: p, y = x ∨ Bf (top x) (top y)) → γ.Ring (rt1 b0) (p.reverse.map rt1) → RepL γ (-1) ts →
      Holds w0 F M' (star (SlKA 2 sB (rkV (rkP ts))) (arenaA a γ)) → AS.Chg (fun c => c ∈ cellsL xs) (19 * (xs.length : Int) - 18 * (ts.length : Int) + 2 + 13 * (p.length : Int)) α γ → fib_unlike.L3 pts (q.length + 1) (some ⟨a, 0, none⟩) sB (rt1 x : Int) sB ((sB.n : Nat) : Int) ((p.length + 1 : Nat) : Int) M' := by
    intro b0 ts sB htsu hst hperm hlen hsm q
    have hnt : (cellsL ts).Nodup := hperm.symm.nodup_iff.1 hnd
    induction q with
    | nil =>
      intro p x M' γ hp hx hle hring hrt hH hch
      rw [H.L3]
      unfold fib_unlike.L3.T
      have hsB : sB.n = ts.length := by
        obtain ⟨F1, g1, _⟩ := hH.slk
        have := g1.len
        rw [rkV_len] at this
        simp only [rkP, List.length_map] at this
        omega
      rw [List.append_nil] at hp
      have hpl : ts.length = p.length + 1 := by rw [hp]; rfl
      rw [bs_decide, if_neg (by omega)]
      refine h M' γ x hH.right ?_ (by rw [← htsu, hp]; exact hx) (fun y hy => hle y (by rw [← hp, htsu]; exact hy)) (hch.mono (fun _ h => h) (by rw [← htsu]; omega))
      rw [← htsu]
      refine ⟨hst, hrt, hnt, rt1 b0 :: p.reverse.map rt1, ?_, hring⟩
      rw [hp, List.map_cons]
      exact List.Perm.cons _ ((List.reverse_perm p).map _)
    | cons y q ih =>
      intro p x M' γ hp hx hle hring hrt hH hch
      rw [H.L3]
      unfold fib_unlike.L3.T
      have hsB : sB.n = ts.length := by
        obtain ⟨F1, g1, _⟩ := hH.slk
        have := g1.len
        rw [rkV_len] at this
        simp only [rkP, List.length_map] at this
        omega
      have hpl : ts.length = p.length + 1 + (q.length + 1) := by rw [hp]; simp; omega
      have hwf : ∀ n ∈ flatR (rkP ts), (Lit.int .i64 n).wf = true := flatR_wf fun pp hpp => by
        obtain ⟨t, ht, rfl⟩ := List.mem_map.1 hpp
        exact ⟨(hsm t ht).2, (hsm t ht).1⟩
      have rd : ∀ {M2 : Mem} {Q : Asn}, Holds w0 F M2 (star (SlKA 2 sB (rkV (rkP ts))) Q) → RdF w0 M2 2 sB (flatR (rkP ts)) := fun {M2 Q} hX => by
        rw [rkV_flat] at hX
        exact Holds.rdF (by decide) hX hwf (by omega)
      have hy : ts[p.length + 1]? = some y := by
        rw [hp, List.getElem?_append_right (by simp)]
        simp
      have hb0 : ts[0]? = some b0 := by rw [hp]; rfl
      have hym : y ∈ ts := List.mem_of_getElem? hy
      have hbm : b0 ∈ ts := List.mem_of_getElem? hb0
      rw [bs_decide, if_pos (by omega)]
      refine rdfA (cs := [(rt1 y : Int), (rank y : Int)]) W.g111 (rd hH) (Mem.le_refl _) (p.length + 1) rfl (by omega) (by simp) (flatR_get (rkP_get hy)) ?_
      simp only [List.map_cons, List.map_nil, shA_v, shCons_v, shI_v, shNil_v]
      intro bx hbx hwx
      have hN := Holds.new hH hbx hwx [.int .i64 0, .int .i64 0] 111
      refine st_agg (vs := [.int .i64 (rt1 y : Int), .int .i64 (rank y : Int)]) W.g111 (Holds.own1 hN) (by simp) (by intro v hv; simp only [List.mem_cons, List.not_mem_nil, or_false] at hv; rcases hv with rfl | rfl <;> rfl) ?_
      have hN2 := (Holds.upd1 hN (cs' := over [.int .i64 0, .int .i64 0] 0 [.int .i64 (rt1 y : Int), .int .i64 (rank y : Int)]) (e' := 111)).rot
      change Holds w0 F _ (star (SlKA 2 sB (rkV (rkP ts))) (star (row1 bx [.int .i64 (rt1 y : Int), .int .i64 (rank y : Int)] 111) (arenaA a γ))) at hN2
      generalize (M'.set bx _).set bx _ = M2 at hN2 ⊢
      have ldx : ∀ {M3 : Mem} {Q : Asn}, Holds w0 F M3 (star (SlKA 2 sB (rkV (rkP ts))) (star (row1 bx [.int .i64 (rt1 y : Int), .int .i64 (rank y : Int)] 111) Q)) → (std PP w0).ld 3 ⟨bx, 0, none⟩ M3 = some (.int .i64 (rt1 y : Int)) := fun {M3 Q} hX => by
        rw [ld_one W.c3]; exact rd_own (o := 0) (Holds.own1 hX.rot)
      simp only [ldx hN2, ob_v, shI_v]
      have hyt := hst y hym
      have hbt := hst b0 hbm
      have hly : γ.live (rt1 y) = true := (hrt y hym).live _ (rt1_mem hyt)
      obtain ⟨F3, hA3, hle3, back3⟩ := hN2.last3
      refine One_ok hA3 hly fun M3 δ hB hs => ?_
      have hH3 := back3 M3 _ hB
      have g1 : ∀ x k, ¬ (x = rt1 y ∧ (k = 2 ∨ k = 3)) → δ.get x k = γ.get x k := fun x k hx => by
        rw [hs.get]
        show (if x = rt1 y ∧ k = 2 then _ else if x = rt1 y ∧ k = 3 then _ else γ.get x k) = _
        rw [if_neg (fun e => hx ⟨e.1, .inl e.2⟩), if_neg (fun e => hx ⟨e.1, .inr e.2⟩)]
      have hyp : rt1 y ∉ rt1 b0 :: p.reverse.map rt1 := fun hm => by
        have hm2 : rt1 y ∈ ((b0 :: p).map rt1) := by
          rcases List.mem_cons.1 hm with hm | hm
          · rw [hm]; simp
          · rw [List.map_reverse, List.mem_reverse] at hm
            simp [hm]
        obtain ⟨t, ht, e⟩ := List.mem_map.1 hm2
        have htm : t ∈ ts := by rw [hp]; exact List.mem_append_left _ ht
        have e2 : t = y := cellsL_dis hnt t htm y hym (rt1 y) (by rw [← e]; exact rt1_mem (hst t htm)) (rt1_mem hyt)
        subst e2
        have : (cellsL ((b0 :: p) ++ t :: q)).Nodup := by rw [← hp]; exact hnt
        simp only [cellsL, List.flatMap_append, List.flatMap_cons] at this
        have h3 := (List.nodup_append.1 this).2.2 (rt1 t) (by
          have := rt1_cells ht _ (rt1_mem hyt)
          simpa [cellsL] using this) (rt1 t) (List.mem_append_left _ (rt1_mem hyt))
        exact h3 rfl
      have hcy : rt1 y ∈ cellsL xs := hS0 ts hperm _ (rt1_cells hym _ (rt1_mem hyt))
      have hcb : rt1 b0 ∈ cellsL xs := hS0 ts hperm _ (rt1_cells hbm _ (rt1_mem hbt))
      have c1 : AS.Chg (fun c => c ∈ cellsL xs) 2 γ δ := (((AS.Chg.refl (S := fun c => c ∈ cellsL xs) (α := γ)).put (c := rt1 y) (f := 3) (v := (rt1 y : Int)) hcy).put (c := rt1 y) (f := 2) (v := (rt1 y : Int)) hcy).trans hs.chg |>.mono (fun _ h => h) (by omega)
      rw [bs_beq, if_neg (by omega)]
      refine rdf0L (i := 0) W.c3 (rd hH3) (Mem.le_refl _) 0 rfl (by omega) (flatR_get (rkP_get hb0) 0 _ rfl) ?_
      simp only [ldx hH3, ob_v, shI_v]
      have hring2 : δ.Ring (rt1 b0) (p.reverse.map rt1) := hring.congr (fun z hz => g1 z 3 (fun e => hyp (e.1 ▸ hz))) (fun z hz => g1 z 2 (fun e => hyp (e.1 ▸ hz))) (fun z _ => by rw [hs.live]; rfl)
      have hlyd : δ.live (rt1 y) = true := by rw [hs.live]; exact hly
      obtain ⟨F4, hA4, hle4, back4⟩ := hH3.last3
      refine Put_ok hA4 hring2 hlyd fun M4 ε hB4 hs4 => ?_
      have hH4 := back4 M4 _ hB4
      simp only [ldx hH4, ob_v, shI_v]
      have hring4 : ε.Ring (rt1 b0) (rt1 y :: p.reverse.map rt1) := hs4.ring (AS.ring_put hring2 hyp hlyd)
      have hhm : (p.reverse.map rt1).headD (rt1 b0) ∈ rt1 b0 :: p.reverse.map rt1 := by
        cases p.reverse.map rt1 <;> simp
      have hrm : ∀ z ∈ rt1 b0 :: p.reverse.map rt1, z ∈ ts.map rt1 := fun z hz => by
        rw [hp]
        rcases List.mem_cons.1 hz with rfl | hz
        · simp
        · rw [List.map_reverse, List.mem_reverse] at hz
          simp [hz]
      have hcm : ∀ z ∈ ts.map rt1, z ∈ cellsL xs := fun z hz => by
        obtain ⟨t, ht, rfl⟩ := List.mem_map.1 hz
        exact hS0 ts hperm _ (rt1_cells ht _ (rt1_mem (hst t ht)))
      have g4 : ∀ z k, ¬ (z ∈ ts.map rt1 ∧ (k = 2 ∨ k = 3)) → ε.get z k = γ.get z k := fun z k hz => by
        have hym2 : rt1 y ∈ ts.map rt1 := List.mem_map_of_mem hym
        rw [hs4.get]
        show (if z = (p.reverse.map rt1).headD (rt1 b0) ∧ k = 2 then _ else if z = rt1 y ∧ k = 3 then _ else if z = rt1 y ∧ k = 2 then _ else if z = rt1 b0 ∧ k = 3 then _ else δ.get z k) = _
        rw [if_neg (fun e : z = (p.reverse.map rt1).headD (rt1 b0) ∧ k = 2 => hz ⟨by rw [e.1]; exact hrm _ hhm, .inl e.2⟩), if_neg (fun e : z = rt1 y ∧ k = 3 => hz ⟨by rw [e.1]; exact hym2, .inr e.2⟩), if_neg (fun e : z = rt1 y ∧ k = 2 => hz ⟨by rw [e.1]; exact hym2, .inl e.2⟩), if_neg (fun e : z = rt1 b0 ∧ k = 3 => hz ⟨by rw [e.1]; exact hrm _ List.mem_cons_self, .inr e.2⟩)]
        exact g1 z k (fun e => hz ⟨e.1 ▸ hym2, e.2⟩)
      have hle4 : ε.live = γ.live := by rw [hs4.live]; exact hs.live
      have hrt4 : RepL ε (-1) ts := repL_congr hrt hst hnt (fun c _ f hf => g4 c f fun e => by have := hf e.1; omega) (fun c _ => by rw [hle4])
      have c4 : AS.Chg (fun c => c ∈ cellsL xs) 7 γ ε := ((((((c1.put (c := rt1 b0) (f := 3) (v := (rt1 y : Int)) hcb).put (c := rt1 y) (f := 2) (v := (rt1 b0 : Int)) hcy).put (c := rt1 y) (f := 3) (v := (((p.reverse.map rt1).headD (rt1 b0) : Nat) : Int)) hcy).put (c := (p.reverse.map rt1).headD (rt1 b0)) (f := 2) (v := (rt1 y : Int)) (hcm _ (hrm _ hhm))).trans hs4.chg)).mono (fun _ h => h) (by omega)
      obtain ⟨F5, hA5, hle5, back5⟩ := hH4.last3
      have hxm : x ∈ ts := by rw [hp]; exact List.mem_append_left _ hx
      obtain ⟨xn, xi, xe, xm, xl, rfl⟩ := sg_node (hst x hxm)
      obtain ⟨yn, yi, ye, ym, yl, rfl⟩ := sg_node hyt
      refine lesser_ok hA5 (hrt4 _ hxm).1 (hrt4 _ hym).1 fun M5 ζ hB5 hs5 => ?_
      have hH5 := back5 M5 _ hB5
      have hc5 : AS.Chg (fun c => c ∈ cellsL xs) 6 ε ζ := hs5.chg
      have hrt5 : RepL ζ (-1) ts := repL_congr hrt4 hst hnt (fun c _ f _ => by rw [hs5.get]) (fun c _ => by rw [hs5.live])
      have hring5 : ζ.Ring (rt1 b0) ((p ++ [node yn yi ye ym yl nil]).reverse.map rt1) := by
        rw [List.reverse_append]
        exact hs5.ring hring4
      simp only [shI_v]
      rw [i64_succ (by omega)]
      have hHd : Holds w0 F M5 (star (SlKA 2 sB (rkV (rkP ts))) (arenaA a ζ)) := by
        obtain ⟨r, ⟨r1, r2, rfl, h1, r3, r4, rfl, h2, h3⟩, h4⟩ := hH5
        exact ⟨r1 ++ r4, ⟨r1, r4, rfl, h1, h3⟩, (h4.perm (r' := (r1 ++ r4) ++ r3) (by rw [List.append_assoc]; exact (List.perm_append_comm).append_left r1)).drop⟩
      have hch5 : AS.Chg (fun c => c ∈ cellsL xs) (19 * (xs.length : Int) - 18 * (ts.length : Int) + 2 + 13 * ((p ++ [node yn yi ye ym yl nil]).length : Int)) α ζ := (hch.trans (c4.trans hc5)).mono (fun _ h => h) (by simp; omega)
      have hp2 : ts = (b0 :: (p ++ [node yn yi ye ym yl nil])) ++ q := by rw [hp]; simp
      by_cases hb : Bf (yi, ye) (xi, xe)
      · rw [if_pos hb]
        have := ih (p ++ [node yn yi ye ym yl nil]) (node yn yi ye ym yl nil) M5 ζ hp2 (by simp) (fun z hz => ?_) hring5 hrt5 hHd hch5
        · simpa using this
        · rw [← List.cons_append] at hz
          rcases List.mem_append.1 hz with hz | hz
          · rcases hle z hz with rfl | hz
            · exact .inr hb
            · exact .inr (Bf.tr (y := (xi, xe)) hb hz)
          · simp only [List.mem_cons, List.not_mem_nil, or_false] at hz
            exact .inl hz
      · rw [if_neg hb]
        have := ih (p ++ [node yn yi ye ym yl nil]) (node xn xi xe xm xl nil) M5 ζ hp2 (by rw [← List.cons_append]; exact List.mem_append_left _ hx) (fun z hz => ?_) hring5 hrt5 hHd hch5
        · simpa using this
        · rw [← List.cons_append] at hz
          rcases List.mem_append.1 hz with hz | hz
          · exact hle z hz
          · simp only [List.mem_cons, List.not_mem_nil, or_false] at hz
            by_cases he : z = node xn xi xe xm xl nil
            · exact .inl he
            · refine .inr ?_
              rw [hz]
              refine Bf.tot hb fun e => ?_
              have e' : yi = xi := e
              have h9 := cellsL_dis hnt _ hym _ hxm yi (by simp [cells]) (by rw [e']; simp [cells])
              exact he (by rw [hz, h9])
  -- one behind the other
  have outer : ∀ (rest : List LT) (j : Nat) (ts : List LT) (sB : SV) (M' : Mem) (γ : AS), xs.drop j = rest → j ≤ xs.length → unl ts rest = unl [] xs → (∀ t ∈ ts, Sg t) → (cellsL ts ++ cellsL rest).Perm (cellsL xs) → RepL γ (-1) ts → RepL γ (-1) rest → Holds w0 F M' (star (SlKA 2 sB (rkV (rkP ts))) (arenaA a γ)) →
      AS.Chg (fun c => c ∈ cellsL xs) (19 * (j : Int) - 18 * (ts.length : Int)) α γ → (j = 0 → ts = [] ∧ γ = α) → fib_unlike.L1 pts (rest.length + 1) (some ⟨a, 0, none⟩) sB s ((s.n : Nat) : Int) (j : Int) M' := by
    intro rest
    induction rest with
    | nil =>
      intro j ts sB M' γ hd hj hu hst hperm hrt _ hH hch hz
      rw [H.L1]
      unfold fib_unlike.L1.T
      have : xs.length ≤ j := List.drop_eq_nil_iff.1 hd
      rw [bs_decide, if_neg (by omega)]
      have hsB : sB.n = ts.length := by
        obtain ⟨F1, g1, _⟩ := hH.slk
        have := g1.len
        rw [rkV_len] at this
        simp only [rkP, List.length_map] at this
        omega
      simp only [unl] at hu
      have hj2 : j = xs.length := by omega
      have hperm' : (cellsL ts).Perm (cellsL xs) := by simpa [cellsL] using hperm
      cases ts with
      | nil =>
        have hx0 : xs = [] := (unl_nil hsg).1 hu.symm
        have hj0 : j = 0 := by rw [hj2, hx0]; rfl
        obtain ⟨_, rfl⟩ := hz hj0
        refine ⟨1, ?_⟩
        rw [H.L3]
        unfold fib_unlike.L3.T
        simp only [List.length_nil] at hsB
        rw [bs_decide, if_neg (by omega)]
        exact h0 hx0 M' hH.right
      | cons b0 q =>
        have hnt : (cellsL (b0 :: q)).Nodup := hperm'.symm.nodup_iff.1 hnd
        have hsm := small_of hH.right.inv hst (fun c hc => by
          obtain ⟨t, ht, hc⟩ := List.mem_flatMap.1 hc
          exact (hrt t ht).live c hc) hnt
        have hlen := hsm.1
        refine ⟨q.length + 1 + 1, ?_⟩
        rw [H.L3]
        unfold fib_unlike.L3.T
        have hwf : ∀ n ∈ flatR (rkP (b0 :: q)), (Lit.int .i64 n).wf = true := flatR_wf fun pp hpp => by
          obtain ⟨t, ht, rfl⟩ := List.mem_map.1 hpp
          exact ⟨(hsm.2 t ht).2, (hsm.2 t ht).1⟩
        have hrd : RdF w0 M' 2 sB (flatR (rkP (b0 :: q))) := by
          have hX := hH
          rw [rkV_flat] at hX
          exact Holds.rdF (by decide) hX hwf (by omega)
        simp only [List.length_cons] at hsB hlen
        rw [bs_decide, if_pos (by omega)]
        refine rdfA (i := 0) (cs := [(rt1 b0 : Int), (rank b0 : Int)]) W.g111 hrd (Mem.le_refl _) 0 rfl (by omega) (by simp) (flatR_get (rkP_get (t := b0) rfl)) ?_
        simp only [List.map_cons, List.map_nil, shA_v, shCons_v, shI_v, shNil_v]
        intro bx hbx hwx
        have hN := Holds.new hH hbx hwx [.int .i64 0, .int .i64 0] 111
        refine st_agg (vs := [.int .i64 (rt1 b0 : Int), .int .i64 (rank b0 : Int)]) W.g111 (Holds.own1 hN) (by simp) (by intro v hv; simp only [List.mem_cons, List.not_mem_nil, or_false] at hv; rcases hv with rfl | rfl <;> rfl) ?_
        have hN2 := (Holds.upd1 hN (cs' := over [.int .i64 0, .int .i64 0] 0 [.int .i64 (rt1 b0 : Int), .int .i64 (rank b0 : Int)]) (e' := 111)).rot
        change Holds w0 F _ (star (SlKA 2 sB (rkV (rkP (b0 :: q)))) (star (row1 bx [.int .i64 (rt1 b0 : Int), .int .i64 (rank b0 : Int)] 111) (arenaA a γ))) at hN2
        generalize (M'.set bx _).set bx _ = M2 at hN2 ⊢
        have ldx : ∀ {M3 : Mem} {Q : Asn}, Holds w0 F M3 (star (SlKA 2 sB (rkV (rkP (b0 :: q)))) (star (row1 bx [.int .i64 (rt1 b0 : Int), .int .i64 (rank b0 : Int)] 111) Q)) → (std PP w0).ld 3 ⟨bx, 0, none⟩ M3 = some (.int .i64 (rt1 b0 : Int)) := fun {M3 Q} hX => by
          rw [ld_one W.c3]; exact rd_own (o := 0) (Holds.own1 hX.rot)
        simp only [ldx hN2, ob_v, shI_v]
        have hbt := hst b0 List.mem_cons_self
        have hlb : γ.live (rt1 b0) = true := (hrt b0 List.mem_cons_self).live _ (rt1_mem hbt)
        obtain ⟨F3, hA3, hle3, back3⟩ := hN2.last3
        refine One_ok hA3 hlb fun M3 δ hB hs => ?_
        have hH3 := back3 M3 _ hB
        simp only [ldx hH3, ob_v, shI_v]
        rw [bs_beq, if_pos rfl, show w64 ((0 : Int) + 1) = ((0 + 1 : Nat) : Int) from i64_succ (i := 0) (by omega)]
        have g1 : ∀ x k, ¬ (x = rt1 b0 ∧ (k = 2 ∨ k = 3)) → δ.get x k = γ.get x k := fun x k hx => by
          rw [hs.get]
          show (if x = rt1 b0 ∧ k = 2 then _ else if x = rt1 b0 ∧ k = 3 then _ else γ.get x k) = _
          rw [if_neg (fun e => hx ⟨e.1, .inl e.2⟩), if_neg (fun e => hx ⟨e.1, .inr e.2⟩)]
        have hcb : rt1 b0 ∈ cellsL xs := hperm'.mem_iff.1 (rt1_cells (List.mem_cons_self (a := b0) (l := q)) _ (rt1_mem hbt))
        have c1 : AS.Chg (fun c => c ∈ cellsL xs) 2 γ δ := (((AS.Chg.refl (S := fun c => c ∈ cellsL xs) (α := γ)).put (c := rt1 b0) (f := 3) (v := (rt1 b0 : Int)) hcb).put (c := rt1 b0) (f := 2) (v := (rt1 b0 : Int)) hcb).trans hs.chg |>.mono (fun _ h => h) (by omega)
        refine final b0 (b0 :: q) sB hu hst hperm' hsm.1 hsm.2 q [] b0 M3 δ rfl (by simp) (fun y hy => .inl (by simpa using hy)) (hs.ring (AS.ring_one hlb)) ?_ ?_ ?_
        · refine repL_congr hrt hst hnt (fun c _ f hf => g1 c f fun e => ?_) (fun c _ => by rw [hs.live]; rfl)
          have := hf (by rw [e.1]; simp)
          omega
        · obtain ⟨r, ⟨r1, r2, rfl, h1, r3, r4, rfl, h2, h3⟩, h4⟩ := hH3
          exact ⟨r1 ++ r4, ⟨r1, r4, rfl, h1, h3⟩, (h4.perm (r' := (r1 ++ r4) ++ r3) (by rw [List.append_assoc]; exact (List.perm_append_comm).append_left r1)).drop⟩
        · exact (hch.trans c1).mono (fun _ h => h) (by rw [hj2]; simp)
    | cons x rest ih =>
      intro j ts sB M' γ hd hj hu hst hperm hrt hrr hH hch hz
      rw [H.L1]
      unfold fib_unlike.L1.T
      have hlt : j < xs.length := by
        apply Decidable.byContradiction
        intro hc
        rw [List.drop_of_length_le (by omega)] at hd; cases hd
      have hdx := List.drop_eq_getElem_cons hlt
      rw [hd] at hdx
      injection hdx with hx1 hx2
      have hxj : xs[j]? = some x := by rw [List.getElem?_eq_getElem hlt, hx1]
      have hxm := List.mem_of_getElem? hxj
      have hsx := hsg x hxm
      have hnall : (cellsL ts ++ cellsL (x :: rest)).Nodup := hperm.symm.nodup_iff.1 hnd
      have hn2 : ((cellsL ts ++ cells x) ++ cellsL rest).Nodup := by
        simp only [cellsL, List.flatMap_cons] at hnall ⊢
        rwa [List.append_assoc]
      obtain ⟨m1, m2, m3⟩ := List.nodup_append.1 hn2
      have hrx := hrr x List.mem_cons_self
      rw [bs_decide, if_pos (by omega)]
      refine rdx (x := (rt1 x : Int)) W.c3 hs hH.fr j rfl (by simp [intsN, hxj]) ?_
      obtain ⟨F1, hA1, hle1, back1⟩ := hH.last
      refine Get_ok hA1 fun M1 hB1 => ?_
      obtain ⟨xn, xi, xe, xm, xl, rfl⟩ := sg_node hsx
      rw [show γ.getI ((rt1 (node xn xi xe xm xl nil) : Nat) : Int) 4 = ((rank (node xn xi xe xm xl nil) : Nat) : Int) from (AS.getI_live (c := xn) (f := 4) hrx.1.ln (by omega)).trans hrx.2.2.2.1]
      have hH1 := back1 M1 _ hB1
      simp only [go_sem]
      intro bx hbx hwx
      have hN := Holds.new hH1 hbx hwx [.int .i64 0, .int .i64 0] 111
      refine st_agg (vs := [.int .i64 (rt1 (node xn xi xe xm xl nil) : Int), .int .i64 (rank (node xn xi xe xm xl nil) : Int)]) W.g111 (Holds.own1 hN) (by simp) (by intro v hv; simp only [List.mem_cons, List.not_mem_nil, or_false] at hv; rcases hv with rfl | rfl <;> rfl) ?_
      have hN2 := (Holds.upd1 hN (cs' := over [.int .i64 0, .int .i64 0] 0 [.int .i64 (rt1 (node xn xi xe xm xl nil) : Int), .int .i64 (rank (node xn xi xe xm xl nil) : Int)]) (e' := 111)).rot
      change Holds w0 F _ (star (SlKA 2 sB (rkV (rkP ts))) (star (row1 bx [.int .i64 (rt1 (node xn xi xe xm xl nil) : Int), .int .i64 (rank (node xn xi xe xm xl nil) : Int)] 111) (arenaA a γ.tick))) at hN2
      generalize (M1.set bx _).set bx _ = M2 at hN2 ⊢
      have hq1 : AS.Chg (fun _ => False) 1 γ γ.tick := AS.Chg.refl.tick.mono (fun _ h => h) (by omega)
      refine ⟨ts.length + 1, inner (rest.length + 1) s _ (j : Int) bx (ts.length + 1) ts (node xn xi xe xm xl nil) sB M2 γ.tick (by omega) hst hsx m1 (repL_congr hrt hst (List.nodup_append.1 m1).1 (fun c _ f _ => rfl) (fun c _ => rfl)) (Chg_rep hrx hq1 (List.nodup_append.1 m1).2.1 (fun _ _ h => h)) hN2 fun M3 s3 δ hH3 hr3 hc3 => ?_⟩
      obtain ⟨a1, a2, a3, a4, a5, a6⟩ := addU_ok (k := ts.length) (Nat.le_refl _) hst hsx
      rw [i64_succ (by omega)]
      have hsub : ∀ c, c ∈ cellsL ts ∨ c ∈ cells (node xn xi xe xm xl nil) → c ∈ cellsL xs := fun c hc => hperm.mem_iff.1 (by
        simp only [cellsL, List.flatMap_cons, List.mem_append]
        rcases hc with hc | hc
        · exact .inl hc
        · exact .inr (.inl hc))
      refine ih (j + 1) (addU ts.length ts (node xn xi xe xm xl nil)) s3 M3 δ hx2.symm (by omega) hu a4 ?_ hr3 ?_ hH3 ?_ (fun e => by omega)
      · refine (a3.append_right _).trans ?_
        simp only [cellsL, List.flatMap_cons] at hperm ⊢
        rwa [List.append_assoc]
      · have hsr : ∀ t ∈ rest, Sg t := fun t ht => hsg t (List.mem_of_mem_drop (i := j) (by rw [hd]; exact List.mem_cons_of_mem _ ht))
        refine repL_congr (fun t ht => hrr t (List.mem_cons_of_mem _ ht)) hsr m2 (fun c hc f _ => hc3.get c (fun h => m3 c (List.mem_append.2 h) c hc rfl) f) (fun c _ => by rw [hc3.live]; rfl)
      · exact (hch.trans ((hq1.mono (T := fun c => c ∈ cellsL xs) (fun _ h => h.elim) (Int.le_refl _)).trans (hc3.mono hsub (Int.le_refl _)))).mono (fun _ h => h) (by omega)
  exact ⟨xs.length + 1, outer xs 0 [] ⟨none, 0, 0⟩ M α rfl (by omega) rfl (fun t ht => by cases ht) (by simp [cellsL]) (fun t ht => by cases ht) hrep (Holds.nilSlk hA) (AS.Chg.refl.mono (fun _ h => h) (by simp)) (fun _ => ⟨rfl, rfl⟩)⟩

end
end Go.Proofs.YtbkicgfgpmekeaaGreat.HL

