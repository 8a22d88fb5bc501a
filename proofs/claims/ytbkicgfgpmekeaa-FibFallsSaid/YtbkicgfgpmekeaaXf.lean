import Derived.Test.YtbkicgfgpmekeaaXe
import Derived.Test.YtbkicgfgpmekeaaHlU
/-
  WdK: the laws on what is dropped, and on given numbers.
-/
set_option linter.unusedVariables false
set_option linter.unusedSimpArgs false
set_option maxRecDepth 100000
namespace Go.Proofs.Ytbkicgfgpmekeaa.HL
open Go.RowKit (Below)
open Go.Proofs

section
variable {w0 : World} {M M0 F : Mem} {R : Value → Mem → Prop} {w a : Nat} {sv : Nat → SV} {ω : WS}

theorem hasN {T : Nat} {t : Nat → HT} (hW : Holds w0 F M (worldA w ω)) (hG : Good T ω t) (hT : T ≤ 100000) {h : Nat} (hh : h < 2) : ∃ s, rd w0 M ⟨w, 3 + h, none⟩ = some (SV.v s) ∧ ((s.n : Nat) : Int) = (((ω.has h).length : Nat) : Int) ∧ RdF w0 M 3 s (flatH (ω.has h)) := by
  obtain ⟨a, sv, hB⟩ := hW.wopen
  have hs := hG.small hB.winv hh
  have := hB.whas hh (hG.ok hB.winv (by omega) hh) (by omega)
  exact ⟨sv h, hB.wseen.s h hh, by rw [this.2], this.1⟩
theorem rootN (hW : Holds w0 F M (worldA w ω)) {h : Nat} (hh : h < 2) : rd w0 M ⟨w, 1 + h, none⟩ = some (.int .i64 (ω.r h)) := by
  obtain ⟨a, sv, hB⟩ := hW.wopen
  exact hB.wseen.r h hh
theorem newIs {P : Asn} (h : Holds w0 F M P) {t e : TypeId} {z : Value} {n : Nat} {parts : List (Nat × Value)} {l : List Int} (ht : PP.underlying t = some (.slice e)) (he : ElemOk PP e z 1) (h24 : n ≤ 1000000)
    (hc : Instr.fill (fun k => some (k * 1, 1)) ((Array.range (n * 1)).map (z.cells[· % z.cells.size]!)) parts = some (l.map (Value.int .i64)).toArray) (hn : l.length = n) (hl : ∀ x ∈ l, In64 x) {K : SV → Mem → Prop}
    (hK : ∀ M' s' F', Mem.le F F' → Mem.le M M' → Holds w0 F' M' P → RdI w0 F' .i64 s' l → K s' M') : (std PP w0).bsl t n parts (fun v M' => shS v fun s => K s M') M := by
  refine bsl_ints (Mem.le_refl M) ht he (by omega) hc hn fun M1 o l1 _ h1 => ?_
  rw [shS_sv]
  obtain ⟨F', hle, h2, h3⟩ := (h.newSl l1 h1).freeze (wf_all hl) (by omega)
  exact hK M1 o F' hle l1 h2 h3


end
end Go.Proofs.Ytbkicgfgpmekeaa.HL

/-
  WdL: the laws on what comes out first: in order, and behind falls.
-/
set_option linter.unusedVariables false
set_option linter.unusedSimpArgs false
set_option maxRecDepth 100000
namespace Go.Proofs.Ytbkicgfgpmekeaa.HL
open Go.RowKit (Below)
open Go.Proofs

section
variable {w0 : World} {M M0 F : Mem} {R : Value → Mem → Prop} {w a : Nat} {sv : Nat → SV} {ω : WS}

/-- The least one of what is held. -/
theorem wmin_ok {T : Nat} {t : Nat → HT} (hB : Holds w0 F M (worldB w a sv ω)) (hG : Good T ω t) {h : Nat} (hh : h < 2)
    (h0 : ω.has h = [] → ∀ M' β, Holds w0 F M' (worldB w a sv { ω with α := β }) → Good T { ω with α := β } t → R (.int .i64 (-1)) M')
    (h1 : ∀ x M' β, x ∈ ω.has h → (∀ y ∈ ω.has h, y ≠ x → Bf x y) → Holds w0 F M' (worldB w a sv { ω with α := β }) → Good T { ω with α := β } t → R (.int .i64 (x.1 : Int)) M') :
    C PP w0 Id.fib_Min #[.pointer (some ⟨a, 0, none⟩), .int .i64 (ω.r h)] R M := by
  obtain ⟨F', hA, hle, back⟩ := hB.warena
  refine heap_min_ok hA (hG.hp h hh) (fun hnil M2 β hA2 hs2 => ?_) fun x L hx hL M2 β hA2 hs2 => ?_
  · exact h0 ((hG.nil_iff hh).2 (by rw [hnil]; rfl)) M2 β (back M2 _ hA2) (hG.sq hs2.sq)
  · refine h1 x M2 β ((hG.its h hh).mem_iff.1 (hx.mem_iff.2 List.mem_cons_self)) (fun y hy hyx => ?_) (back M2 _ hA2) (hG.sq hs2.sq)
    rcases List.mem_cons.1 (hx.mem_iff.1 ((hG.its h hh).mem_iff.2 hy)) with e | e
    · exact absurd e hyx
    · exact hL y e

/-- A place of its own for an entry. -/
theorem box2 {P : Asn} (hW : Holds w0 F M P) (x y : Int) {K : Nat → Mem → Prop} (hK : ∀ b M1, Holds w0 F M1 (star (row1 b [.int .i64 x, .int .i64 y] 40) P) → K b M1) :
    (std PP w0).nw [.int .i64 0, .int .i64 0] 40 (fun b M22 => (std PP w0).st 40 ⟨b, 0, none⟩ (.agg #[.int .i64 x, .int .i64 y]) (fun M23 => K b M23) M22) M := by
  intro b2 hb2 hw2
  have hP := Holds.new hW hb2 hw2 [.int .i64 0, .int .i64 0] 40
  refine st_agg (vs := [.int .i64 x, .int .i64 y]) W.g40 (Holds.own1 hP) (by simp) (by intro v hv; simp only [List.mem_cons, List.not_mem_nil, or_false] at hv; rcases hv with rfl | rfl <;> rfl) ?_
  have hP2 := Holds.upd1 hP (cs' := over [.int .i64 0, .int .i64 0] 0 [.int .i64 x, .int .i64 y]) (e' := 40)
  exact hK b2 _ hP2
theorem ldE {b : Nat} {x y : Int} (h : Own w0 M b [.int .i64 x, .int .i64 y] 40) : (std PP w0).ld 40 ⟨b, 0, none⟩ M = some (.agg #[.int .i64 x, .int .i64 y]) :=
  ld_agg (cs := [.int .i64 x, .int .i64 y]) W.g40 (fun j v hj => by rw [add_eq, rd_own h, Nat.zero_add]; exact hj)
theorem rdHa {s : SV} {l : List Held} (h : RdF w0 M0 3 s (flatH l)) {j : Nat} {x : Held} (hx : l[j]? = some x) : ∃ a, s.a = some a ∧ j < s.n ∧ ∀ M, Mem.le M0 M → (std PP w0).ld 58 (a.add (j * 3)) M = some (.agg #[.int .i64 (x.1 : Int), .int .i64 x.2.1, .int .i64 x.2.2]) := by
  have hj := (List.getElem?_eq_some_iff.1 hx).1
  have hlen := h.len
  rw [flatH_len] at hlen
  obtain ⟨a, ea, _⟩ := h.cell _ _ (flatH_get hx 0 _ rfl)
  refine ⟨a, ea, by omega, fun M hl => ld_agg (cs := [.int .i64 (x.1 : Int), .int .i64 x.2.1, .int .i64 x.2.2]) W.g58 (fun f v hv => ?_)⟩
  have key : ∀ (y : Int), [(x.1 : Int), x.2.1, x.2.2][f]? = some y → rd w0 M ((a.add (j * 3)).add f) = some (.int .i64 y) := fun y hy => by
    obtain ⟨a', ea', hr⟩ := h.cell _ y (flatH_get hx f y hy)
    rw [ea] at ea'; cases ea'
    rw [add_add]; exact hr M hl
  match f, hv with
  | 0, hv => simp at hv; subst hv; exact key _ rfl
  | 1, hv => simp at hv; subst hv; exact key _ rfl
  | 2, hv => simp at hv; subst hv; exact key _ rfl
  | f + 3, hv => simp at hv

theorem Good.ser_ne {T : Nat} {t : Nat → HT} (hG : Good T ω t) {h : Nat} (hh : h < 2) {x y : Held} (hx : x ∈ ω.has h) (hy : y ∈ ω.has h) (hne : y ≠ x) : x.2.2 ≠ y.2.2 := by
  have h1 := hG.ser_h hh
  rw [List.map_append] at h1
  have h2 := (List.nodup_append.1 h1).1
  intro e
  have key : ∀ {l : List Held}, (l.map fun x => x.2.2).Nodup → x ∈ l → y ∈ l → y = x := by
    intro l
    induction l with
    | nil => intro _ h; cases h
    | cons z l ih =>
      intro hn hx hy
      rw [List.map_cons, List.nodup_cons] at hn
      rcases List.mem_cons.1 hx with hx1 | hx1
      · rcases List.mem_cons.1 hy with hy1 | hy1
        · rw [hx1, hy1]
        · exact absurd (List.mem_map.2 ⟨y, hy1, by rw [← hx1]; exact e.symm⟩) hn.1
      · rcases List.mem_cons.1 hy with hy1 | hy1
        · exact absurd (List.mem_map.2 ⟨x, hx1, by rw [← hy1]; exact e⟩) hn.1
        · exact ih hn.2 hx1 hy1
  exact hne (key h2 hx hy)
theorem Good.nodup {T : Nat} {t : Nat → HT} (hG : Good T ω t) {h : Nat} (hh : h < 2) : (ω.has h).Nodup := by
  have h1 := hG.ser_h hh
  rw [List.map_append] at h1
  exact (List.Pairwise.of_map _ (fun a b h e => h (by rw [e])) (List.nodup_append.1 h1).1)

theorem lw_sorts (hR : ∀ M, R (.bool true) M) {s s2 : SV} {l l2 : List Int} (hs : RdI w0 M .i64 s l) (hs2 : RdI w0 M .i64 s2 l2) : C PP w0 Id.thicketlaw12_FibSorts #[SV.v s, SV.v s2] R M := by
  apply thicketlaw12_FibSorts.go
  intro pts H
  unfold thicketlaw12_FibSorts.T
  refine fresh_w_ok (n := 160) (by omega) fun M1 w hW1 => ?_
  simp only [go_sem, Option.isNone_some, bs_false]
  have z0 : (0 : Int) ≤ 0 := by omega
  have z1 : (0 : Int) < ((2 : Nat) : Int) := by omega
  have t0 : (0 : Int).toNat = 0 := rfl
  -- one by one
  have l3 : ∀ (n : Nat), n ≤ 100000 → ∀ (k i : Nat) (F M' : Mem) (b : Nat) (lk ls : Int) (ω : WS) (t : Nat → HT), i ≤ n → n < i + k → Holds w0 F M' (star (row1 b [.int .i64 lk, .int .i64 ls] 40) (worldA w ω)) → Good (200 + i) ω t → n ≤ 1000 → (ω.has 0).length = n - i → ω.has 1 = [] →
      (∀ x ∈ ω.has 0, Lt (lk, ls) x.2) → thicketlaw12_FibSorts.L3 pts k (some ⟨w, 0, none⟩) (n : Int) ⟨b, 0, none⟩ (i : Int) M' := by
    intro n hn k
    induction k with
    | zero => intro i F M' b lk ls ω t h1 h2; omega
    | succ k ih =>
      intro i F M' b lk ls ω t h1 h2 H0 hG hn2 hlen hnil1 hlast
      rw [H.L3]
      unfold thicketlaw12_FibSorts.L3.T
      obtain ⟨F1, hW, hle1, back⟩ := Holds.last H0
      obtain ⟨a, sv, hB⟩ := hW.wopen
      have ws := hB.wseen
      rw [bs_decide]
      split
      · rename_i hi
        have hne : ω.has 0 ≠ [] := fun e => by rw [e] at hlen; simp at hlen; omega
        simp only [go_sem, add_eq, Nat.zero_add, Nat.add_zero, t0, Nat.mul_one, Nat.zero_mul, z0, z1, and_self, true_and, ws.p, ws.r 0 (by omega)]
        refine wmin_ok hB hG (h := 0) (by omega) (fun h9 => absurd h9 hne) fun z M2 β hz hzm hB2 hG2 => ?_
        have ws2 := hB2.wseen
        simp only [go_sem, add_eq, Nat.zero_add, Nat.add_zero, ws2.p]
        obtain ⟨F2, hA2, hle2, back2⟩ := hB2.warena
        refine Entry_ok hA2 fun M3 hA3 => ?_
        have hzt : z ∈ (t 0).its := (hG2.its 0 (by omega)).mem_iff.2 hz
        have hzl : β.live z.1 = true := (hG2.hp 0 (by omega)).live z.1 (HT.mem_its hzt)
        have e7 : β.getI (z.1 : Int) 7 = z.2.1 := by
          rw [show β.getI (z.1 : Int) 7 = β.get z.1 7 from AS.getI_live (f := 7) hzl (by omega)]
          exact HT.key_of (hG2.hp 0 (by omega)) hzt
        have e8 : β.getI (z.1 : Int) 8 = z.2.2 := by
          rw [show β.getI (z.1 : Int) 8 = β.get z.1 8 from AS.getI_live (f := 8) hzl (by omega)]
          exact HT.ser_of (hG2.hp 0 (by omega)) hzt
        rw [e7, e8]
        have hB3 := back2 M3 _ hA3
        have hG3 : Good (200 + i) { ω with α := β.tick.tick } t := hG2.sq (AS.tick_sm.trans AS.tick_sm).sq
        simp only [go_sem]
        refine box2 hB3 z.2.1 z.2.2 fun b2 M4 hX4 => ?_
        obtain ⟨F4, hle4, own4, hB4⟩ := Holds.freeze1 hX4
        have xl := ldE (Holds.own1 (back M4 _ (hB4.wclose.le_frame hle4)))
        have xe := ldE (own4.le hB4.fr)
        simp only [xl, xe, ob_v, shA_v, shCons_v, shI_v, shNil_v]
        refine rBefore_ok (a := (lk, ls)) (b := z.2) fun M5 l5 => ?_
        rw [decide_eq_true (hlast z hz)]
        simp only [shB_v, Bool.not_true, bs_false]
        refine wpop_ok (h := 0) (hB4.le l5).wclose hG3 (by omega) (by omega) fun M6 ω6 t6 hW6 hG6 n6 nx6 o6 => ?_
        obtain ⟨k', x', hk', hmin', hs6⟩ := o6.resolve_left (fun h9 => hne h9.1)
        have hx' : x' ∈ ω.has 0 := List.mem_of_getElem? hk'
        have hxz : x' = z := by
          apply Decidable.byContradiction
          intro hc
          exact Bf.asym (hzm x' hx' hc) (hmin' z hz (fun e => hc e.symm))
        subst hxz
        have e6 : ω6.has 0 = (ω.has 0).eraseIdx k' := by rw [hs6, upd_same]
        have hkl : k' < (ω.has 0).length := (List.getElem?_eq_some_iff.1 hk').1
        have l6 : (ω6.has 0).length = n - (i + 1) := by
          rw [e6, List.length_eraseIdx_of_lt hkl]; omega
        obtain ⟨s6, q6, c6, _⟩ := hasN hW6 hG6 (by omega) (h := 0) (by omega)
        have xe6 := ldE (own4.le hW6.fr)
        simp only [shB_v, Bool.not_true, bs_false, go_sem, add_eq, Nat.zero_add, Nat.add_zero, t0, Nat.mul_one, Nat.zero_mul, z0, z1, and_self, true_and, q6, c6, bs_bne]
        rw [l6, w64_in (n := (n : Int) - 1) (by omega), w64_in (by omega), if_pos (by omega)]
        simp only [xe6, ob_v, shA_v, shCons_v, shI_v, shNil_v]
        have H6 := back M6 _ (hW6.le_frame hle4)
        refine st_agg (vs := [.int .i64 x'.2.1, .int .i64 x'.2.2]) W.g40 (Holds.own1 H6) (by simp) (by intro v hv; simp only [List.mem_cons, List.not_mem_nil, or_false] at hv; rcases hv with rfl | rfl <;> rfl) ?_
        have H7 := Holds.upd1 H6 (cs' := over [.int .i64 lk, .int .i64 ls] 0 [.int .i64 x'.2.1, .int .i64 x'.2.2]) (e' := 40)
        rw [i64_succ (by omega)]
        refine ih (i + 1) F _ b x'.2.1 x'.2.2 ω6 t6 (by omega) (by omega) H7 hG6 hn2 l6 (by rw [hs6, upd_ne _ _ (by omega)]; exact hnil1) fun y hy => ?_
        rw [e6] at hy
        have hy0 := List.mem_of_mem_eraseIdx hy
        have hne : y ≠ x' := by
          rintro rfl
          have hnd := (erase_perm hk').nodup_iff.1 (hG.nodup (h := 0) (by omega))
          exact (List.nodup_cons.1 hnd).1 hy
        rcases hzm y hy0 hne with h9 | h9
        · exact h9
        · exact absurd (congrArg Prod.snd h9.1) (hG.ser_ne (by omega) hz hy0 hne)
      · rename_i hi
        have h0 : ω.has 0 = [] := List.eq_nil_of_length_eq_zero (by omega)
        have hr0 : ω.r 0 = -1 := (hG.hp 0 (by omega)).root_nil.2 ((hG.nil_iff (by omega)).1 h0)
        have l4 : ω.α.len = 0 := by rw [hG.len, h0, hnil1]; rfl
        simp only [go_sem, add_eq, Nat.zero_add, Nat.add_zero, t0, Nat.mul_one, Nat.zero_mul, z0, z1, and_self, true_and, ws.p, ws.r 0 (by omega), hr0, bs_beq, if_true]
        obtain ⟨F', hA, _⟩ := hB.warena
        refine Len_ok hA ?_
        simp only [go_sem, l4, bs_beq]
        rw [if_pos (by rfl)]
        refine known_ok fun M5 l5 => ?_
        simp only [go_sem]
        exact hR M5
  have j1 : ∀ (M' : Mem) (ω : WS) (t : Nat → HT) (T : Nat), T ≤ 200 → Holds w0 M M' (worldA w ω) → Good T ω t → ω.has 1 = [] → thicketlaw12_FibSorts.J1 pts (some ⟨w, 0, none⟩) M' := by
    intro M' ω t T hT hW hG hnil1
    rw [H.J1]
    unfold thicketlaw12_FibSorts.J1.T
    obtain ⟨s, q, c, f⟩ := hasN hW hG (by omega) (h := 0) (by omega)
    obtain ⟨a, sv, hB⟩ := hW.wopen
    have hsm := hG.len
    have hse := hG.ser
    have hbld : (std PP w0).bld 40 [(0, .int .i64 (-9223372036854775808)), (1, .int .i64 (-1))] = some (.agg #[.int .i64 (-9223372036854775808), .int .i64 (-1)]) := by kernel_rfl
    simp only [go_sem, add_eq, Nat.zero_add, Nat.add_zero, t0, Nat.mul_one, Nat.zero_mul, z0, z1, and_self, true_and, q, c, hbld]
    have hlen : (ω.has 0).length ≤ 1000 := by
      have h1 : ((ω.has 0 ++ ω.has 1).map fun x => x.2.2).length ≤ 200 := by
        refine Nat.le_trans (List.Nodup.length_le_of_subset hse (l₂ := (List.range 200).map Int.ofNat) fun x hx => ?_) (by simp)
        obtain ⟨y, hy, rfl⟩ := List.mem_map.1 hx
        have hk : 0 ≤ y.2.2 ∧ y.2.2 < ω.next := by
          rcases List.mem_append.1 hy with hy | hy
          · exact (hG.keys 0 (by omega) y hy).2
          · exact (hG.keys 1 (by omega) y hy).2
        have := hG.next.2
        exact List.mem_map.2 ⟨y.2.2.toNat, by simp; omega, by show ((y.2.2.toNat : Nat) : Int) = _; omega⟩
      rw [List.length_map, List.length_append] at h1; omega
    refine box2 hW _ _ fun b M2 hX2 => ?_
    refine ⟨(ω.has 0).length + 1, l3 (ω.has 0).length (by omega) _ 0 M M2 b _ _ ω t (by omega) (by omega) hX2 (hG.more (by omega)) hlen (by omega) hnil1 fun x hx => ?_⟩
    have hk := hG.keys 0 (by omega) x hx
    unfold In64 at hk
    show (-9223372036854775808 : Int) < x.2.1 ∨ (-9223372036854775808 : Int) = x.2.1 ∧ (-1 : Int) < x.2.2
    omega
  have key : ∀ (k i : Nat) (M' : Mem) (ω : WS) (t : Nat → HT), i ≤ 60 → 60 < i + k → Holds w0 M M' (worldA w ω) → Good (2 * i) ω t → ω.has 1 = [] → thicketlaw12_FibSorts.L2 pts k s s2 (some ⟨w, 0, none⟩) (i : Int) M' := by
    intro k
    induction k with
    | zero => intro i M' ω t h1 h2; omega
    | succ k ih =>
      intro i M' ω t h1 h2 hW hG hnil1
      rw [H.L2]
      unfold thicketlaw12_FibSorts.L2.T
      rw [bs_decide]
      split
      · rename_i hi
        rw [bs_decide]
        split
        · rename_i hi2
          rw [H.J4]
          unfold thicketlaw12_FibSorts.J4.T
          have hin : i < l.length := by rw [← hs.len]; omega
          have hy := List.getElem?_eq_getElem hin
          have hyi : In64 l[i] := int_wf (hs.wf _ (List.getElem_mem hin))
          generalize l[i] = y at hy hyi
          refine rdx W.c2 hs hW.fr i rfl hy ?_
          simp only [go_sem]
          refine ⟨trivial, by decide, ?_⟩
          refine wpush_ok (h := 0) hW hG (by omega) (by omega) (tmod_in hyi (by omega) (by omega)) fun M2 ω2 t2 hW2 hG2 n2 o2 => ?_
          have hn2 : ω2.has 1 = [] := by
            rcases o2 with ⟨c, h9, _⟩ | ⟨_, h9, _⟩
            · rw [h9, upd_ne _ _ (by omega)]; exact hnil1
            · rw [h9]; exact hnil1
          simp only [shB_v, Bool.not_true, bs_false]
          rw [bs_decide]
          split
          · rename_i hi3
            have hin2 : i < l2.length := by rw [← hs2.len]; omega
            have hv := List.getElem?_eq_getElem hin2
            have hvi : In64 l2[i] := int_wf (hs2.wf _ (List.getElem_mem hin2))
            generalize l2[i] = v at hv hvi
            refine rdy hs2 hW2.fr i rfl hv ?_
            refine rdy hs hW2.fr i rfl hy ?_
            refine ⟨trivial, by decide, ?_⟩
            refine wfall_ok (h := 0) hW2 hG2 (by omega) (by omega) hvi (w64_range _) fun M3 ω3 t3 hW3 hG3 n3 nx3 o3 => ?_
            simp only [shB_v, Bool.not_true, bs_false]
            rw [i64_succ (by omega)]
            refine ih (i + 1) M3 ω3 t3 (by omega) (by omega) hW3 (hG3.more (by omega)) ?_
            rcases o3 with ⟨_, h9⟩ | ⟨k9, x9, _, _, h9⟩
            · rw [h9]; exact hn2
            · rw [h9, upd_ne _ _ (by omega)]; exact hn2
          · rw [i64_succ (by omega)]
            exact ih (i + 1) M2 ω2 t2 (by omega) (by omega) hW2 (hG2.more (by omega)) hn2
        · exact j1 M' ω t _ (by omega) hW hG hnil1
      · exact j1 M' ω t _ (by omega) hW hG hnil1
  exact ⟨61, key 61 0 M1 _ _ (by omega) (by omega) hW1 (good_fresh (by omega)) rfl⟩

end
end Go.Proofs.Ytbkicgfgpmekeaa.HL

/-
  WdN: the law on falls.
-/
set_option linter.unusedVariables false
set_option linter.unusedSimpArgs false
set_option maxRecDepth 100000
namespace Go.Proofs.Ytbkicgfgpmekeaa.HL
open Go.RowKit (Below)
open Go.Proofs

section
variable {w0 : World} {M M0 F : Mem} {R : Value → Mem → Prop} {w a : Nat} {sv : Nat → SV} {ω : WS}

theorem rdy1 {k : IntKind} {s : SV} {l : List Int} (h : RdI w0 M0 k s l) (hl : Mem.le M0 M) {i : Int} (j : Nat) (e : i = (j : Int)) {x : Int} (hx : l[j]? = some x) {K : Int → Prop} (hK : K x) :
    nc s.a fun a => (0 ≤ i ∧ i < ((s.n : Nat) : Int)) ∧ ob (rd w0 M (a.add i.toNat)) fun v => shI k v fun n => K n := by
  have := rdy h hl j e hx hK
  simpa only [Nat.mul_one] using this
theorem tmod_bd (n : Int) {k : Int} (hk : 0 < k) : -k < Int.tmod n k ∧ Int.tmod n k < k := by
  have a1 : Int.tmod n k < k := Int.tmod_lt_of_pos n hk
  have a2 := Int.tmod_lt_of_pos (-n) hk
  rw [Int.neg_tmod] at a2; omega

theorem lw_falls (hR : ∀ M, R (.bool true) M) {s sw sc : SV} {l lw lc : List Int} (hs : RdI w0 M .i64 s l) (hsw : RdI w0 M .i64 sw lw) (hsc : RdI w0 M .i64 sc lc) : C PP w0 Id.thicketlaw12_FibFalls #[SV.v s, SV.v sw, SV.v sc] R M := by
  apply thicketlaw12_FibFalls.go
  intro pts H
  unfold thicketlaw12_FibFalls.T
  refine fresh_w_ok (n := 160) (by omega) fun M1 w hW1 => ?_
  simp only [go_sem, Option.isNone_some, bs_false]
  have z0 : (0 : Int) ≤ 0 := by omega
  have z1 : (0 : Int) < ((2 : Nat) : Int) := by omega
  have t0 : (0 : Int).toNat = 0 := rfl
  have j3 : ∀ (F M' : Mem) (ω : WS) (t : Nat → HT) (T : Nat), T ≤ 1000 → Holds w0 F M' (worldA w ω) → Good T ω t → thicketlaw12_FibFalls.J3 pts (some ⟨w, 0, none⟩) M' := by
    intro F M' ω t T hT hW hG
    rw [H.J3]
    unfold thicketlaw12_FibFalls.J3.T
    refine wright_ok hW hG (by omega) fun M2 ω2 hW2 hG2 _ _ _ _ => ?_
    simp only [go_sem, bs_true]
    refine known_ok fun M3 l3 => ?_
    simp only [go_sem]
    exact hR M3
  have l4 : ∀ (k i : Nat) (F M' : Mem) (ω : WS) (t : Nat → HT), i ≤ 20 → 20 < i + k → Mem.le M F → Holds w0 F M' (worldA w ω) → Good (60 + 10 * i) ω t → (∀ x ∈ ω.has 0, -1000 - (i : Int) ≤ x.2.1) → thicketlaw12_FibFalls.L4 pts k sw sc (some ⟨w, 0, none⟩) (-1000 - (i : Int)) (i : Int) M' := by
    intro k
    induction k with
    | zero => intro i F M' ω t h1 h2; omega
    | succ k ih =>
      intro i F M' ω t h1 h2 hMF hW hG hlow
      rw [H.L4]
      unfold thicketlaw12_FibFalls.L4.T
      rw [bs_decide]
      split
      rotate_left
      · exact j3 F M' ω t _ (by omega) hW hG
      rename_i hi
      rw [bs_decide]
      split
      rotate_left
      · exact j3 F M' ω t _ (by omega) hW hG
      rename_i hi2
      obtain ⟨a, sv, hB⟩ := hW.wopen
      have ws := hB.wseen
      have q0 := ws.s 0 (by omega)
      have hsmall : (ω.has 0).length ≤ 32768 := by
        have := hG.small hB.winv (h := 0) (by omega); omega
      obtain ⟨f0, c0'⟩ := hB.whas (h := 0) (by omega) (hG.ok hB.winv (by omega) (by omega)) (by omega)
      have c0 : (((sv 0).n : Nat) : Int) = (((ω.has 0).length : Nat) : Int) := by rw [c0']
      rw [show (3 + 0) = 3 from rfl] at q0
      simp only [go_sem, add_eq, Nat.zero_add, Nat.add_zero, t0, Nat.mul_one, Nat.zero_mul, z0, z1, and_self, true_and, q0]
      rw [bs_decide]
      split
      rotate_left
      · exact j3 F M' ω t _ (by omega) hW hG
      rename_i hi3
      have hlen : 0 < (ω.has 0).length := by omega
      have hne : ω.has 0 ≠ [] := fun e => by rw [e] at hlen; simp at hlen
      have hin : i < lw.length := by rw [← hsw.len]; omega
      have hy := List.getElem?_eq_getElem hin
      have hyi : In64 lw[i] := int_wf (hsw.wf _ (List.getElem_mem hin))
      generalize lw[i] = y at hy hyi
      obtain ⟨aw, ew, rw_⟩ := hsw.cell i y hy
      obtain ⟨g1, g2⟩ := withinI_in (n := y) (lo := 0) (hi := ((ω.has 0).length : Int) - 1) (by omega)
      obtain ⟨kk, hk⟩ : ∃ k : Nat, withinI y 0 (((ω.has 0).length : Int) - 1) = (k : Int) := ⟨(withinI y 0 (((ω.has 0).length : Int) - 1)).toNat, by omega⟩
      have hk' : kk < (ω.has 0).length := by omega
      have ex := List.getElem?_eq_getElem hk'
      generalize (ω.has 0)[kk] = x at ex
      have hxm : x ∈ ω.has 0 := List.mem_of_getElem? ex
      obtain ⟨as0, es, hn0, ra⟩ := rdHa f0 ex
      have hlw : -1000 - (i : Int) - 1 < x.2.1 := by have := hlow x hxm; omega
      -- behind the fall, and what goes on from there
      have j8 : ∀ (F M' : Mem) (ω : WS) (t : Nat → HT), Mem.le M F → Holds w0 F M' (worldA w ω) → Good (60 + 10 * i + 4) ω t → (∀ x ∈ ω.has 0, -1000 - ((i + 1 : Nat) : Int) ≤ x.2.1) → thicketlaw12_FibFalls.J8 pts k sw sc (some ⟨w, 0, none⟩) (-1000 - ((i + 1 : Nat) : Int)) (i : Int) M' := by
        intro F M' ω t hMF hW hG hlow
        rw [H.J8]
        unfold thicketlaw12_FibFalls.J8.T
        rw [i64_succ (by omega)]
        refine ⟨rfl, by decide, ?_⟩
        rw [bs_beq]
        split
        · refine wpop_ok (h := 0) hW hG (by omega) (by omega) fun M2 ω2 t2 hW2 hG2 _ _ o2 => ?_
          simp only [go_sem, Bool.not_true, bs_false]
          refine wright_ok hW2 hG2 (by omega) fun M3 ω3 hW3 hG3 _ _ s3 _ => ?_
          simp only [go_sem, Bool.not_true, bs_false]
          refine ih (i + 1) F M3 ω3 t2 (by omega) (by omega) hMF hW3 (hG3.more (by omega)) fun x hx => ?_
          rw [s3] at hx
          rcases o2 with ⟨_, h9⟩ | ⟨k9, x9, _, _, h9⟩
          · rw [h9] at hx; exact hlow x hx
          · rw [h9, upd_same] at hx; exact hlow x (List.mem_of_mem_eraseIdx hx)
        · exact ih (i + 1) F M' ω t (by omega) (by omega) hMF hW (hG.more (by omega)) hlow
      have j7 : ∀ (F M' : Mem) (ω : WS) (t : Nat → HT), Mem.le M F → Holds w0 F M' (worldA w ω) → Good (60 + 10 * i + 1) ω t → (∀ x ∈ ω.has 0, -1000 - ((i + 1 : Nat) : Int) ≤ x.2.1) → thicketlaw12_FibFalls.J7 pts k sw sc (some ⟨w, 0, none⟩) (-1000 - ((i + 1 : Nat) : Int)) (i : Int) M' := by
        intro F M' ω t hMF hW hG hlow
        rw [H.J7]
        unfold thicketlaw12_FibFalls.J7.T
        rw [bs_decide]
        split
        · rename_i hi4
          obtain ⟨s0, q0, c0, f0⟩ := hasN hW hG (by omega) (h := 0) (by omega)
          simp only [go_sem, add_eq, Nat.zero_add, Nat.add_zero, t0, Nat.mul_one, Nat.zero_mul, z0, z1, and_self, true_and, q0, c0]
          rw [bs_decide]
          split
          · rename_i hi5
            have hin : i < lc.length := by rw [← hsc.len]; omega
            have hy := List.getElem?_eq_getElem hin
            have hyi : In64 lc[i] := int_wf (hsc.wf _ (List.getElem_mem hin))
            generalize lc[i] = y at hy hyi
            have hsm : (ω.has 0).length ≤ 32768 := by
              obtain ⟨a, sv, hB⟩ := hW.wopen
              have := hG.small hB.winv (h := 0) (by omega); omega
            refine rdy1 hsc (Mem.le_trans hMF hW.fr) i rfl hy ?_
            rw [w64_in (by omega)]
            refine WithinE_ok hyi (by omega) (by omega) (by omega) (by omega) ?_
            obtain ⟨g1, g2⟩ := withinI_in (n := y) (lo := 0) (hi := ((ω.has 0).length : Int) - 2) (by omega)
            simp only [shI_v]
            refine wcut_ok (h := 0) hW hG (by omega) (by omega) (by unfold In64; omega) fun M2 ω2 t2 hW2 hG2 _ _ o2 => ?_
            simp only [go_sem, Bool.not_true, bs_false]
            refine wright_ok hW2 hG2 (by omega) fun M3 ω3 hW3 hG3 _ _ s3 _ => ?_
            simp only [go_sem, Bool.not_true, bs_false]
            refine j8 F M3 ω3 t2 hMF hW3 (hG3.more (by omega)) fun x hx => ?_
            rw [s3] at hx
            rcases o2 with ⟨_, h9⟩ | ⟨k9, _, _, h9⟩
            · rw [h9] at hx; exact hlow x hx
            · rw [h9, upd_same] at hx; exact hlow x (List.mem_of_mem_eraseIdx hx)
          · exact j8 F M' ω t hMF hW (hG.more (by omega)) hlow
        · exact j8 F M' ω t hMF hW (hG.more (by omega)) hlow
      have hlo : w64 (-1000 - (i : Int) - 1) = -1000 - ((i + 1 : Nat) : Int) := by rw [w64_in (by omega)]; omega
      -- what fell is the least one
      have least : ∀ (ω4 : WS) (z : Held), ω4.has = upd ω.has 0 ((ω.has 0).eraseIdx kk ++ [(x.1, (if -1000 - ((i + 1 : Nat) : Int) < x.2.1 then -1000 - ((i + 1 : Nat) : Int) else x.2.1, x.2.2))]) → z ∈ ω4.has 0 → (∀ y ∈ ω4.has 0, y ≠ z → Bf z y) → z.1 = x.1 ∧ ∀ x ∈ ω4.has 0, -1000 - ((i + 1 : Nat) : Int) ≤ x.2.1 := by
        intro ω4 z h4 hz hzm
        rw [if_pos (by omega)] at h4
        have e4 : ω4.has 0 = (ω.has 0).eraseIdx kk ++ [(x.1, (-1000 - ((i + 1 : Nat) : Int), x.2.2))] := by rw [h4, upd_same]
        rw [e4] at hz hzm ⊢
        have hall : ∀ y ∈ (ω.has 0).eraseIdx kk ++ [(x.1, (-1000 - ((i + 1 : Nat) : Int), x.2.2))], -1000 - ((i + 1 : Nat) : Int) ≤ y.2.1 := by
          intro y hy
          rcases List.mem_append.1 hy with hy | hy
          · have := hlow y (List.mem_of_mem_eraseIdx hy); omega
          · simp only [List.mem_cons, List.not_mem_nil, or_false] at hy
            subst hy; exact Int.le_refl _
        refine ⟨?_, hall⟩
        rcases List.mem_append.1 hz with h9 | h9
        · exfalso
          have h8 := hlow z (List.mem_of_mem_eraseIdx h9)
          have hmem : ((x.1, (-1000 - ((i + 1 : Nat) : Int), x.2.2)) : Held) ∈ (ω.has 0).eraseIdx kk ++ [(x.1, (-1000 - ((i + 1 : Nat) : Int), x.2.2))] := List.mem_append_right _ List.mem_cons_self
          have h7 := (hzm _ hmem (fun e => by
            have h6 : -1000 - (i : Int) ≤ -1000 - ((i + 1 : Nat) : Int) := by rw [← e] at h8; exact h8
            omega)).lt
          have h5 : z.2.1 ≤ -1000 - ((i + 1 : Nat) : Int) := h7
          omega
        · simp only [List.mem_cons, List.not_mem_nil, or_false] at h9
          rw [h9]
      rw [H.J6]
      unfold thicketlaw12_FibFalls.J6.T
      have hMW := Mem.le_trans hMF hW.fr
      simp only [go_sem, add_eq, Nat.zero_add, Nat.add_zero, t0, Nat.mul_one, Nat.zero_mul, z0, z1, and_self, true_and, q0, c0, ew, Int.toNat_natCast, rw_ M' hMW, es, hlo]
      refine ⟨⟨by omega, by omega⟩, ?_, ?_⟩
      · rw [w64_in (by omega)]
        refine WithinE_ok hyi (by omega) (by omega) (by omega) (by omega) ?_
        rw [hk]
        simp only [shI_v, Int.toNat_natCast, ra M' (Mem.le_refl _), ob_v, shA_v, shCons_v, shNil_v, q0]
        refine ⟨⟨by omega, by omega⟩, trivial, ?_⟩
        intro b hb hw
        have hN := hB.new hb hw [.int .i64 0, .int .i64 0, .int .i64 0] 58
        have hle : Mem.le M' _ := ((Holds.self hB).new hb hw [.int .i64 0, .int .i64 0, .int .i64 0] 58).fr
        generalize M'.set b (.row [.int .i64 0, .int .i64 0, .int .i64 0] 58) = M2 at hN hle ⊢
        have ws2 := hN.right.wseen
        refine ⟨ws2.s 0 (by omega), ra M2 hle, ?_⟩
        refine st_agg (vs := [.int .i64 (x.1 : Int), .int .i64 x.2.1, .int .i64 x.2.2]) W.g58 (Holds.own1 hN) (by simp) (by intro v hv; simp only [List.mem_cons, List.not_mem_nil, or_false] at hv; rcases hv with rfl | rfl | rfl <;> rfl) ?_
        have hN2 := Holds.upd1 hN (cs' := over [.int .i64 0, .int .i64 0, .int .i64 0] 0 [.int .i64 (x.1 : Int), .int .i64 x.2.1, .int .i64 x.2.2]) (e' := 58)
        obtain ⟨F3, hle3, own3, hB3⟩ := Holds.freeze1 hN2
        change Own w0 F3 b [.int .i64 (x.1 : Int), .int .i64 x.2.1, .int .i64 x.2.2] 58 at own3
        generalize M2.set b _ = M3 at hB3 ⊢
        have hM3 : Mem.le M M3 := Mem.le_trans hMF (Mem.le_trans hle3 hB3.fr)
        simp only [rw_ M3 hM3, ob_v, shI_v]
        refine ⟨⟨by omega, by omega⟩, ?_⟩
        refine wfall_ok (h := 0) hB3.wclose hG (by omega) (by omega) hyi (by unfold In64; omega) fun M4 ω4 t4 hW4 hG4 n4 x4 o4 => ?_
        obtain ⟨k4, x5, hk4, ek4, hs4⟩ := o4.resolve_left (fun h9 => hne h9.1)
        obtain rfl : k4 = kk := by omega
        rw [ex] at hk4; cases hk4
        obtain ⟨a4, sv4, hB4⟩ := hW4.wopen
        have ws4 := hB4.wseen
        have r4 := ws4.r 0 (by omega)
        rw [show (1 + 0) = 1 from rfl] at r4
        have b4 : rd w0 M4 ⟨b, 0, none⟩ = some (.int .i64 (x.1 : Int)) := by rw [rd_own (own3.le hW4.fr)]; rfl
        simp only [shB_v, Bool.not_true, bs_false, ws4.p, r4, b4, ob_v, shP_v, shI_v]
        refine wmin_ok hB4 hG4 (h := 0) (by omega) (fun h9 => absurd h9 (by rw [hs4, upd_same]; simp)) fun z M5 β hz hzm hB5 hG5 => ?_
        obtain ⟨e1, e2⟩ := least ω4 z hs4 hz hzm
        have b5 : rd w0 M5 ⟨b, 0, none⟩ = some (.int .i64 (x.1 : Int)) := by rw [rd_own (own3.le hB5.fr)]; rfl
        simp only [shI_v, b5, true_and, e1, bs_bne, if_true]
        exact j7 F3 M5 _ t4 (Mem.le_trans hMF hle3) hB5.wclose hG5 e2
      · intro b hb hw
        have hN := hB.new hb hw [.int .i64 0, .int .i64 0, .int .i64 0] 58
        have hle : Mem.le M' _ := ((Holds.self hB).new hb hw [.int .i64 0, .int .i64 0, .int .i64 0] 58).fr
        generalize M'.set b (.row [.int .i64 0, .int .i64 0, .int .i64 0] 58) = M2 at hN hle ⊢
        have ws2 := hN.right.wseen
        refine ⟨ws2.s 0 (by omega), rw_ M2 (Mem.le_trans hMW hle), ws2.s 0 (by omega), ?_⟩
        rw [w64_in (by omega)]
        refine WithinE_ok hyi (by omega) (by omega) (by omega) (by omega) ?_
        rw [hk]
        have q2 := ws2.s 0 (by omega)
        rw [show (3 + 0) = 3 from rfl] at q2
        simp only [shI_v, Int.toNat_natCast, ra M2 hle, ob_v, shA_v, shCons_v, shNil_v, q2]
        refine ⟨⟨by omega, by omega⟩, trivial, ?_⟩
        refine st_agg (vs := [.int .i64 (x.1 : Int), .int .i64 x.2.1, .int .i64 x.2.2]) W.g58 (Holds.own1 hN) (by simp) (by intro v hv; simp only [List.mem_cons, List.not_mem_nil, or_false] at hv; rcases hv with rfl | rfl | rfl <;> rfl) ?_
        have hN2 := Holds.upd1 hN (cs' := over [.int .i64 0, .int .i64 0, .int .i64 0] 0 [.int .i64 (x.1 : Int), .int .i64 x.2.1, .int .i64 x.2.2]) (e' := 58)
        obtain ⟨F3, hle3, own3, hB3⟩ := Holds.freeze1 hN2
        change Own w0 F3 b [.int .i64 (x.1 : Int), .int .i64 x.2.1, .int .i64 x.2.2] 58 at own3
        generalize M2.set b _ = M3 at hB3 ⊢
        have hM3 : Mem.le M M3 := Mem.le_trans hMF (Mem.le_trans hle3 hB3.fr)
        simp only [rw_ M3 hM3, ob_v, shI_v]
        refine ⟨⟨by omega, by omega⟩, ?_⟩
        refine wfall_ok (h := 0) hB3.wclose hG (by omega) (by omega) hyi (by unfold In64; omega) fun M4 ω4 t4 hW4 hG4 n4 x4 o4 => ?_
        obtain ⟨k4, x5, hk4, ek4, hs4⟩ := o4.resolve_left (fun h9 => hne h9.1)
        obtain rfl : k4 = kk := by omega
        rw [ex] at hk4; cases hk4
        obtain ⟨a4, sv4, hB4⟩ := hW4.wopen
        have ws4 := hB4.wseen
        have r4 := ws4.r 0 (by omega)
        rw [show (1 + 0) = 1 from rfl] at r4
        have b4 : rd w0 M4 ⟨b, 0, none⟩ = some (.int .i64 (x.1 : Int)) := by rw [rd_own (own3.le hW4.fr)]; rfl
        simp only [shB_v, Bool.not_true, bs_false, ws4.p, r4, b4, ob_v, shP_v, shI_v]
        refine wmin_ok hB4 hG4 (h := 0) (by omega) (fun h9 => absurd h9 (by rw [hs4, upd_same]; simp)) fun z M5 β hz hzm hB5 hG5 => ?_
        obtain ⟨e1, e2⟩ := least ω4 z hs4 hz hzm
        have b5 : rd w0 M5 ⟨b, 0, none⟩ = some (.int .i64 (x.1 : Int)) := by rw [rd_own (own3.le hB5.fr)]; rfl
        simp only [shI_v, b5, true_and, e1, bs_bne, if_true]
        exact j7 F3 M5 _ t4 (Mem.le_trans hMF hle3) hB5.wclose hG5 e2
  have j1 : ∀ (M' : Mem) (ω : WS) (t : Nat → HT) (T : Nat), T ≤ 60 → Holds w0 M M' (worldA w ω) → Good T ω t → (∀ x ∈ ω.has 0, -1000 ≤ x.2.1) → thicketlaw12_FibFalls.J1 pts sw sc (some ⟨w, 0, none⟩) M' := by
    intro M' ω t T hT hW hG hlow
    rw [H.J1]
    unfold thicketlaw12_FibFalls.J1.T
    refine ⟨21, l4 21 0 M M' ω t (by omega) (by omega) (Mem.le_refl _) hW (hG.more (by omega)) fun x hx => ?_⟩
    have := hlow x hx
    omega
  have key : ∀ (k i : Nat) (M' : Mem) (ω : WS) (t : Nat → HT), i ≤ 50 → 50 < i + k → Holds w0 M M' (worldA w ω) → Good i ω t → (∀ x ∈ ω.has 0, -1000 ≤ x.2.1) → thicketlaw12_FibFalls.L2 pts k s sw sc (some ⟨w, 0, none⟩) (i : Int) M' := by
    intro k
    induction k with
    | zero => intro i M' ω t h1 h2; omega
    | succ k ih =>
      intro i M' ω t h1 h2 hW hG hlow
      rw [H.L2]
      unfold thicketlaw12_FibFalls.L2.T
      rw [bs_decide]
      split
      · rename_i hi
        rw [bs_decide]
        split
        · rename_i hi2
          rw [H.J5]
          unfold thicketlaw12_FibFalls.J5.T
          have hin : i < l.length := by rw [← hs.len]; omega
          have hy := List.getElem?_eq_getElem hin
          have hyi : In64 l[i] := int_wf (hs.wf _ (List.getElem_mem hin))
          generalize l[i] = y at hy hyi
          refine rdx W.c2 hs hW.fr i rfl hy ?_
          refine ⟨rfl, by decide, ?_⟩
          refine wpush_ok (h := 0) hW hG (by omega) (by omega) (tmod_in hyi (by omega) (by omega)) fun M2 ω2 t2 hW2 hG2 n2 o2 => ?_
          simp only [shB_v, Bool.not_true, bs_false]
          rw [i64_succ (by omega)]
          refine ih (i + 1) M2 ω2 t2 (by omega) (by omega) hW2 hG2 fun x hx => ?_
          rcases o2 with ⟨c, h9, _⟩ | ⟨_, h9, _⟩
          · rw [h9, upd_same] at hx
            rcases List.mem_append.1 hx with hx | hx
            · exact hlow x hx
            · simp only [List.mem_cons, List.not_mem_nil, or_false] at hx
              subst hx
              have := (tmod_bd y (k := 100) (by omega)).1
              show -1000 ≤ Int.tmod y 100
              omega
          · rw [h9] at hx; exact hlow x hx
        · exact j1 M' ω t _ (by omega) hW hG hlow
      · exact j1 M' ω t _ (by omega) hW hG hlow
  exact ⟨51, key 51 0 M1 _ _ (by omega) (by omega) hW1 (good_fresh (by omega)) (fun x hx => by cases hx)⟩

end
end Go.Proofs.Ytbkicgfgpmekeaa.HL

/-
  WdO: the law on melds.
-/
set_option linter.unusedVariables false
set_option linter.unusedSimpArgs false
set_option maxRecDepth 100000
namespace Go.Proofs.Ytbkicgfgpmekeaa.HL
open Go.RowKit (Below)
open Go.Proofs

section
variable {w0 : World} {M M0 F : Mem} {R : Value → Mem → Prop} {w a : Nat} {sv : Nat → SV} {ω : WS}

theorem lw_melds (hR : ∀ M, R (.bool true) M) {s s2 : SV} {l l2 : List Value} (hs : RdV w0 M s l) (hq : ∀ x ∈ l, ∃ s' l', x = SV.v s' ∧ RdI w0 M .i64 s' l') (hs2 : RdV w0 M s2 l2) (hq2 : ∀ x ∈ l2, ∃ b, x = .bool b) : C PP w0 Id.thicketlaw12_FibMelds #[SV.v s, SV.v s2] R M := by
  apply thicketlaw12_FibMelds.go
  intro pts H
  unfold thicketlaw12_FibMelds.T
  refine fresh_w_ok (n := 300) (by omega) fun M1 w hW1 => ?_
  simp only [go_sem, Option.isNone_some, bs_false]
  have z0 : (0 : Int) ≤ 0 := by omega
  have z1 : (0 : Int) < ((2 : Nat) : Int) := by omega
  have z2 : (0 : Int) ≤ 1 := by omega
  have z3 : (1 : Int) < ((2 : Nat) : Int) := by omega
  have t0 : (0 : Int).toNat = 0 := rfl
  have t1 : (1 : Int).toNat = 1 := rfl
  have kn : ∀ (M' : Mem), (std PP w0).call Id.thicketlaw12_known #[] (fun v M => shB v fun b => R (.bool b) M) M' := fun M' => by
    refine known_ok fun M5 l5 => ?_
    simp only [go_sem]
    exact hR M5
  have key : ∀ (k i : Nat) (M' : Mem) (ω : WS) (t : Nat → HT), i ≤ 12 → 12 < i + k → Holds w0 M M' (worldA w ω) → Good (20 * i) ω t → thicketlaw12_FibMelds.L1 pts k s s2 (some ⟨w, 0, none⟩) (i : Int) M' := by
    intro k
    induction k with
    | zero => intro i M' ω t h1 h2; omega
    | succ k ih =>
      intro i M' ω t h1 h2 hW hG
      rw [H.L1]
      unfold thicketlaw12_FibMelds.L1.T
      rw [bs_decide]
      split
      rotate_left
      · exact kn M'
      rename_i hi
      rw [bs_decide]
      split
      rotate_left
      · exact kn M'
      rename_i hi2
      have hin : i < l.length := by rw [← hs.len]; omega
      have hx := List.getElem?_eq_getElem hin
      generalize l[i] = x at hx
      obtain ⟨s', l', rfl, hs'⟩ := hq x (List.mem_of_getElem? hx)
      have j5 : ∀ (M' : Mem) (ω : WS) (t : Nat → HT), Holds w0 M M' (worldA w ω) → Good (20 * i + 11) ω t → thicketlaw12_FibMelds.J5 pts k s s2 (some ⟨w, 0, none⟩) (i : Int) M' := by
        intro M' ω t hW hG
        rw [H.J5]
        unfold thicketlaw12_FibMelds.J5.T
        obtain ⟨a, sv, hB⟩ := hW.wopen
        have ws := hB.wseen
        have q0 := ws.s 0 (by omega)
        have q1 := ws.s 1 (by omega)
        have hsm := hG.small hB.winv (h := 0) (by omega)
        rw [show (1 - 0) = 1 from rfl] at hsm
        have c0 := (hB.whas (h := 0) (by omega) (hG.ok hB.winv (by omega) (by omega)) (by omega)).2
        have c1 := (hB.whas (h := 1) (by omega) (hG.ok hB.winv (by omega) (by omega)) (by omega)).2
        rw [show (3 + 0) = 3 from rfl] at q0
        rw [show (3 + 1) = 4 from rfl] at q1
        simp only [go_sem, add_eq, Nat.zero_add, Nat.add_zero, t0, t1, Nat.mul_one, Nat.zero_mul, z0, z1, z2, z3, and_self, true_and, q0, q1, c0, c1]
        refine wmeld_ok (h := 0) hW hG (by omega) (by omega) fun M2 ω2 t2 hW2 hG2 n2 x2 s2' r2 => ?_
        obtain ⟨s3, q3, c3, _⟩ := hasN hW2 hG2 (by omega) (h := 0) (by omega)
        have r3 := rootN hW2 (h := 1) (by omega)
        rw [show (1 - 0) = 1 from rfl] at r2 s2'
        rw [r2] at r3
        have l3 : (ω2.has 0).length = (ω.has 0).length + (ω.has 1).length := by rw [s2', upd_ne _ _ (by omega), upd_same, List.length_append]
        simp only [go_sem, Bool.not_true, bs_false, add_eq, Nat.zero_add, Nat.add_zero, t0, t1, Nat.mul_one, Nat.zero_mul, z0, z1, z2, z3, and_self, true_and, q3, c3, l3, r3, bs_bne, if_true]
        rw [w64_in (by omega), if_pos (by omega)]
        refine wright_ok hW2 hG2 (by omega) fun M4 ω4 hW4 hG4 _ _ _ _ => ?_
        simp only [go_sem, Bool.not_true, bs_false]
        rw [i64_succ (by omega)]
        exact ih (i + 1) M4 ω4 t2 (by omega) (by omega) hW4 (hG4.more (by omega))
      have jr : ∀ (M' : Mem) (ω : WS) (t : Nat → HT), Holds w0 M M' (worldA w ω) → Good (20 * i + 9) ω t → (std PP w0).call Id.thicketlaw12_world_right #[.pointer (some ⟨w, 0, none⟩)] (fun v M => shB v fun b => bs (!b) (R (.bool false) M) (thicketlaw12_FibMelds.J5 pts k s s2 (some ⟨w, 0, none⟩) (i : Int) M)) M' := by
        intro M' ω t hW hG
        refine wright_ok hW hG (by omega) fun M4 ω4 hW4 hG4 _ _ _ _ => ?_
        simp only [go_sem, Bool.not_true, bs_false]
        exact j5 M4 ω4 t hW4 (hG4.more (by omega))
      have j3 : ∀ (M' : Mem) (ω : WS) (t : Nat → HT), Holds w0 M M' (worldA w ω) → Good (20 * i + 8) ω t → thicketlaw12_FibMelds.J3 pts k s s2 (some ⟨w, 0, none⟩) (i : Int) M' := by
        intro M' ω t hW hG
        rw [H.J3]
        unfold thicketlaw12_FibMelds.J3.T
        rw [bs_decide]
        split
        · rename_i hi3
          have hin2 : i < l2.length := by rw [← hs2.len]; omega
          have hb := List.getElem?_eq_getElem hin2
          generalize l2[i] = b at hb
          obtain ⟨b, rfl⟩ := hq2 b (List.mem_of_getElem? hb)
          simp only [go_sem]
          refine rdyV hs2 hW.fr i rfl hb ?_
          simp only [shB_v]
          cases b with
          | true =>
            rw [bs_true]
            refine wpop_ok (h := 0) hW hG (by omega) (by omega) fun M2 ω2 t2 hW2 hG2 _ _ _ => ?_
            simp only [go_sem, Bool.not_true, bs_false]
            exact jr M2 ω2 t2 hW2 hG2
          | false =>
            rw [bs_false]
            exact jr M' ω t hW (hG.more (by omega))
        · exact jr M' ω t hW (hG.more (by omega))
      rw [H.J2]
      unfold thicketlaw12_FibMelds.J2.T
      have l4 : ∀ (k' j : Nat) (M' : Mem) (ω : WS) (t : Nat → HT), j ≤ 8 → 8 < j + k' → Holds w0 M M' (worldA w ω) → Good (20 * i + j) ω t → thicketlaw12_FibMelds.L4 pts k k' s s2 (some ⟨w, 0, none⟩) (i : Int) (j : Int) M' := by
        intro k'
        induction k' with
        | zero => intro j M' ω t h1 h2; omega
        | succ k' ih' =>
          intro j M' ω t h1 h2 hW hG
          rw [H.L4]
          unfold thicketlaw12_FibMelds.L4.T
          simp only [go_sem]
          refine rdyV hs hW.fr i rfl hx ?_
          simp only [shS_sv]
          rw [bs_decide]
          split
          · rename_i hj
            rw [bs_decide]
            split
            · rename_i hj2
              rw [H.J6]
              unfold thicketlaw12_FibMelds.J6.T
              simp only [go_sem]
              refine rdyV hs hW.fr i rfl hx ?_
              simp only [shS_sv]
              have hjn : j < l'.length := by rw [← hs'.len]; omega
              have hy := List.getElem?_eq_getElem hjn
              have hyi : In64 l'[j] := int_wf (hs'.wf _ (List.getElem_mem hjn))
              generalize l'[j] = y at hy hyi
              refine rdy hs' hW.fr j rfl hy ?_
              refine ⟨trivial, by decide, ?_⟩
              refine wpush_ok (h := 1) hW hG (by omega) (by omega) (tmod_in hyi (by omega) (by omega)) fun M2 ω2 t2 hW2 hG2 _ _ => ?_
              simp only [go_sem, Bool.not_true, bs_false]
              rw [i64_succ (by omega)]
              exact ih' (j + 1) M2 ω2 t2 (by omega) (by omega) hW2 hG2
            · exact j3 M' ω t hW (hG.more (by omega))
          · exact j3 M' ω t hW (hG.more (by omega))
      exact ⟨9, l4 9 0 M' ω t (by omega) (by omega) hW hG⟩
  exact ⟨13, key 13 0 M1 _ _ (by omega) (by omega) hW1 (good_fresh (by omega))⟩

end
end Go.Proofs.Ytbkicgfgpmekeaa.HL

/-
  WdP: the law on great heaps.
-/
set_option linter.unusedVariables false
set_option linter.unusedSimpArgs false
set_option maxRecDepth 100000
namespace Go.Proofs.Ytbkicgfgpmekeaa.HL
open Go.RowKit (Below)
open Go.Proofs

section
variable {w0 : World} {M M0 F : Mem} {R : Value → Mem → Prop} {w a : Nat} {sv : Nat → SV} {ω : WS}

/-- The book is not kept. -/
def gz (ω : WS) : WS := ⟨ω.α, ω.r, fun _ => [], 0, ω.spent, ω.most⟩

theorem lw_great (hR : ∀ M, R (.bool true) M) {n how : Int} (hn : In64 n) (hhow : In64 how) {s : SV} {l : List Int} (hs : RdI w0 M .i64 s l) : C PP w0 Id.thicketlaw12_FibGreat #[.int .i64 n, .int .i64 how, SV.v s] R M := by
  apply thicketlaw12_FibGreat.go
  intro pts H
  unfold thicketlaw12_FibGreat.T
  refine fresh_w_ok (n := 1400) (by omega) fun M1 w hW1 => ?_
  simp only [go_sem, Option.isNone_some, bs_false]
  refine WithinE_ok hn (by omega) (by omega) (by omega) (by omega) ?_
  obtain ⟨g1, g2⟩ := withinI_in (n := n) (lo := 1) (hi := 600) (by omega)
  obtain ⟨N, hN⟩ : ∃ N : Nat, withinI n 1 600 = (N : Int) := ⟨(withinI n 1 600).toNat, by omega⟩
  rw [hN] at g1 g2 ⊢
  simp only [shI_v]
  have z0 : (0 : Int) ≤ 0 := by omega
  have z1 : (0 : Int) < ((2 : Nat) : Int) := by omega
  have t0 : (0 : Int).toNat = 0 := rfl
  -- one by one, out
  have l3 : ∀ (k m : Nat) (F M' : Mem) (b : Nat) (lk ls : Int) (ω : WS) (t : Nat → HT) (T : Nat), m ≤ 600 → m < k → T + m ≤ 2000 → Holds w0 F M' (star (row1 b [.int .i64 lk, .int .i64 ls] 40) (worldA w (gz ω))) → Good T ω t → (ω.has 0).length = m → ω.has 1 = [] →
      (∀ x ∈ ω.has 0, Lt (lk, ls) x.2) → thicketlaw12_FibGreat.L3 pts k (some ⟨w, 0, none⟩) ⟨b, 0, none⟩ (m : Int) M' := by
    intro k
    induction k with
    | zero => intro m F M' b lk ls ω t T h1 h2; omega
    | succ k ih =>
      intro m F M' b lk ls ω t T h1 h2 hT H0 hG hlen hnil1 hlast
      rw [H.L3]
      unfold thicketlaw12_FibGreat.L3.T
      obtain ⟨F1, hW, hle1, back⟩ := Holds.last H0
      obtain ⟨a, sv, hB⟩ := hW.wopen
      have ws := hB.wseen
      have r0 : rd w0 M' ⟨w, 1, none⟩ = some (.int .i64 (ω.r 0)) := ws.r 0 (by omega)
      rw [bs_decide]
      split
      · rename_i hi
        have hI : ω.α.Inv := hB.winv
        have hIst := hI.steps
        have hcosts := hG.costs (by omega)
        have hpt := hG.pots (h := 0) (by omega)
        have hpo := HT.pot_ge (t (1 - 0))
        have hl0 := hG.hlen (h := 0) (by omega)
        have hlim := limH_bound (n := m) (by omega)
        simp only [go_sem, add_eq, Nat.zero_add, Nat.add_zero, ws.p]
        obtain ⟨F2, hA2z, hle2, back2⟩ := hB.warena
        have hA2 : Holds w0 F2 M' (arenaA a ω.α) := hA2z
        refine MeterSteps_ok (K := fun _ _ _ => True) hA2 fun p _ hq => ?_
        simp only [go_sem]
        refine hq.mono fun v M'' hv => ?_
        obtain ⟨rfl, rfl⟩ := hv
        simp only [go_sem, add_eq, Nat.zero_add, Nat.add_zero, t0, Nat.mul_one, Nat.zero_mul, z0, z1, and_self, true_and, ws.p, r0]
        refine heap_pop_ok hA2 (hG.hp 0 (by omega)) (fun hnil => ?_) (fun x L hx hL M2 γ t' n' hn' hA3 hp2 hi2 hsub hx2 he2 hg2 => ?_)
        · exfalso
          have hnl : ω.has 0 = [] := (hG.nil_iff (by omega)).2 (by rw [hnil]; rfl)
          rw [hnl] at hlen; simp at hlen; omega
        have hst := he2.steps ⟨hIst.1, hIst.2.2⟩
        have hpot := HT.pot_ge t'
        rw [hl0, hlen] at hst
        have hW2 := back2 M2 _ hA3
        simp only [go_sem]
        refine cost_ok (lim := limH m) hW2 (by omega) (by rw [if_pos rfl]) (by show 0 ≤ γ.steps - ω.α.steps ∧ γ.steps - ω.α.steps ≤ _; omega) hcosts.1 hcosts.2 (cost_of (t := t 0) (t' := t') (P := HT.pot (t (1 - 0))) (by show γ.steps - ω.α.steps + _ ≤ _; omega) hpt hpo) fun M3 hW3 => ?_
        have ws3 := hW3.wseen
        simp only [go_sem, Bool.not_true, bs_false, bs_beq]
        rw [if_neg (by omega), H.J5]
        unfold thicketlaw12_FibGreat.J5.T
        simp only [go_sem, ws3.p]
        obtain ⟨F3, hA3', hle3, back3⟩ := hW3.warena
        refine Entry_ok hA3' fun M4 hA4 => ?_
        have hlv : γ.live x.1 = true := hg2.2.2.2
        have e7 : γ.getI (x.1 : Int) 7 = x.2.1 := by
          rw [show γ.getI (x.1 : Int) 7 = γ.get x.1 7 from AS.getI_live (f := 7) hlv (by omega)]; exact hg2.2.1
        have e8 : γ.getI (x.1 : Int) 8 = x.2.2 := by
          rw [show γ.getI (x.1 : Int) 8 = γ.get x.1 8 from AS.getI_live (f := 8) hlv (by omega)]; exact hg2.2.2.1
        have hB4 := back3 M4 _ hA4
        have e78 : (Value.agg #[.int .i64 (γ.getI (x.1 : Int) 7), .int .i64 (γ.getI (x.1 : Int) 8)]) = .agg #[.int .i64 x.2.1, .int .i64 x.2.2] := by rw [e7, e8]
        simp only [e7, e8, shA_v, shCons_v, shI_v, shNil_v]
        refine box2 hB4 x.2.1 x.2.2 fun b2 M5 hX5 => ?_
        obtain ⟨F5, hle5, own5, hB5⟩ := Holds.freeze1 hX5
        have xl := ldE (Holds.own1 (back M5 _ (hB5.wclose.le_frame hle5)))
        have xe := ldE (own5.le hB5.fr)
        simp only [xl, xe, ob_v, shA_v, shCons_v, shI_v, shNil_v]
        have hxm : x ∈ ω.has 0 := (hG.its 0 (by omega)).mem_iff.1 (hx.mem_iff.2 List.mem_cons_self)
        refine rBefore_ok (a := (lk, ls)) (b := x.2) fun M6 l6 => ?_
        rw [decide_eq_true (hlast x hxm)]
        have hB6 := hB5.le l6
        have ws6 := hB6.wseen
        simp only [go_sem, Bool.not_true, bs_false, ws6.p]
        obtain ⟨F6, hA6, hle6, back6⟩ := hB6.warena
        refine Give_ok hA6 fun M7 hA7 => ?_
        have hlv2 : γ.tick.tick.live x.1 = true := hlv
        have hA7' : Holds w0 F6 M7 (arenaA a (γ.tick.tick.unlive x.1).tick) := by
          have e : AS.giveI γ.tick.tick (x.1 : Int) = γ.tick.tick.unlive x.1 := AS.giveI_live hlv2
          rw [← e]; exact hA7
        have hB7 := back6 M7 _ hA7'
        have elv : AS.liveI γ.tick.tick (x.1 : Int) = true := by rw [AS.liveI_nat]; exact hlv2
        have ws7 := hB7.wseen
        have xe7 := ldE (own5.le hB7.fr)
        simp only [elv, shB_v, Bool.not_true, bs_false]
        rw [H.J6]
        unfold thicketlaw12_FibGreat.J6.T
        simp only [xe7, ob_v, shA_v, shCons_v, shI_v, shNil_v, nc_v, add_eq, Nat.zero_add, Nat.add_zero, t0, Nat.mul_one, Nat.zero_mul, z0, z1, and_self, true_and]
        refine wst_r hB7 (h := 0) (by omega) fun M8 hB8 => ?_
        refine ⟨ldE (own5.le hB8.fr), ?_⟩
        have H8 := back M8 _ (hB8.wclose.le_frame hle5)
        refine st_agg (vs := [.int .i64 x.2.1, .int .i64 x.2.2]) W.g40 (Holds.own1 H8) (by simp) (by intro v hv; simp only [List.mem_cons, List.not_mem_nil, or_false] at hv; rcases hv with rfl | rfl <;> rfl) ?_
        have H9 := Holds.upd1 H8 (cs' := over [.int .i64 lk, .int .i64 ls] 0 [.int .i64 x.2.1, .int .i64 x.2.2]) (e' := 40)
        rw [show w64 ((m : Int) - 1) = ((m - 1 : Nat) : Int) from by rw [w64_in (by omega)]; omega]
        obtain ⟨kx, ey⟩ := List.getElem?_of_mem hxm
        have hkl : kx < (ω.has 0).length := (List.getElem?_eq_some_iff.1 ey).1
        have heT : AS.Eff (fun c => c ∈ (t 0).cells) (fun c => c = n' ∨ c = x.1) (-2) _ ω.α (γ.tick.tick.unlive x.1).tick := (((((he2.mono (S' := fun c => c ∈ (t 0).cells) (L' := fun c => c = n' ∨ c = x.1) (fun _ e => e) (fun _ e => .inl e) (Int.le_refl _)).tick).tick).trans (AS.unlive_eff (AS.tick_inv (AS.tick_inv hA3.inv)) hlv2 (.inr rfl))).tick).to (by omega)
        have hpT : Hp (γ.tick.tick.unlive x.1).tick t'.root t' := hp2.eff (S := fun c => c = x.1) (L := fun c => c = x.1) (((((AS.tick_sm (α := γ)).trans AS.tick_sm).eff (S := fun c => c = x.1) (L := fun c => c = x.1)).trans (AS.unlive_eff (S := fun c => c = x.1) (L := fun c => c = x.1) (AS.tick_inv (AS.tick_inv hA3.inv)) hlv2 rfl)).tick) (fun c hc e => hx2 (e ▸ hc)) (fun c hc e => hx2 (e ▸ hc))
        have hpL : L.Perm ((ω.has 0).eraseIdx kx) := List.Perm.cons_inv ((hx.symm.trans (hG.its 0 (by omega))).trans (erase_perm ey))
        have hG9 : Good (T + 1) ⟨(γ.tick.tick.unlive x.1).tick, upd ω.r 0 t'.root, upd ω.has 0 ((ω.has 0).eraseIdx kx), ω.next, ω.spent + (γ.steps - ω.α.steps), ω.most + limH m⟩ (upd t 0 t') := by
          refine hG.take (by omega) ey hpT (hi2.trans hpL) hsub hn' heT (by omega) (by omega) ⟨?_, ?_⟩
          · have := hG.most; omega
          · have := hG.most; omega
        have f0 : (upd ω.has 0 ((ω.has 0).eraseIdx kx) 0).length = m - 1 := by rw [upd_same, List.length_eraseIdx_of_lt hkl]; omega
        have f1 : upd ω.has 0 ((ω.has 0).eraseIdx kx) 1 = [] := by rw [upd_ne _ _ (by omega)]; exact hnil1
        refine ih (m - 1) F _ b x.2.1 x.2.2 ⟨(γ.tick.tick.unlive x.1).tick, upd ω.r 0 t'.root, upd ω.has 0 ((ω.has 0).eraseIdx kx), ω.next, ω.spent + (γ.steps - ω.α.steps), ω.most + limH m⟩ (upd t 0 t') (T + 1) (by omega) (by omega) (by omega) H9 hG9 f0 f1 fun y hy => ?_
        · change y ∈ upd ω.has 0 ((ω.has 0).eraseIdx kx) 0 at hy
          rw [upd_same] at hy
          have hy0 := List.mem_of_mem_eraseIdx hy
          have hne : y ≠ x := by
            rintro rfl
            have hnd := (erase_perm ey).nodup_iff.1 (hG.nodup (h := 0) (by omega))
            exact (List.nodup_cons.1 hnd).1 hy
          rcases hL y (hpL.mem_iff.2 hy) with h9 | h9
          · exact h9
          · exact absurd (congrArg Prod.snd h9.1) (hG.ser_ne (by omega) hxm hy0 hne)
      · rename_i hi
        have h0 : ω.has 0 = [] := List.eq_nil_of_length_eq_zero (by omega)
        have hr0 : ω.r 0 = -1 := (hG.hp 0 (by omega)).root_nil.2 ((hG.nil_iff (by omega)).1 h0)
        have l4 : ω.α.len = 0 := by rw [hG.len, h0, hnil1]; rfl
        simp only [go_sem, add_eq, Nat.zero_add, Nat.add_zero, t0, Nat.mul_one, Nat.zero_mul, z0, z1, and_self, true_and, ws.p, r0, hr0, bs_beq, if_true]
        obtain ⟨F', hA, _⟩ := hB.warena
        refine Len_ok hA ?_
        have l5 : (gz ω).α.len = 0 := l4
        simp only [go_sem, l5, bs_beq]
        rw [if_pos (by rfl)]
        refine known_ok fun M5 l5 => ?_
        simp only [go_sem]
        exact hR M5
  -- one by one, in
  have l1 : ∀ (k i : Nat) (F M' : Mem) (ω : WS) (t : Nat → HT), i ≤ N → N < i + k → Mem.le M F → Holds w0 F M' (worldA w (gz ω)) → Good i ω t → ω.next = (i : Int) → (ω.has 0).length = i → ω.has 1 = [] → ω.α.n = 1400 → thicketlaw12_FibGreat.L1 pts k how s (some ⟨w, 0, none⟩) (N : Int) (i : Int) M' := by
    intro k
    induction k with
    | zero => intro i F M' ω t h1 h2; omega
    | succ k ih =>
      intro i F M' ω t h1 h2 hMF hW hG hnx hlen hnil1 hcn
      rw [H.L1]
      unfold thicketlaw12_FibGreat.L1.T
      rw [bs_decide]
      split
      · rename_i hi
        -- one goes in
        have j2 : ∀ (F M' : Mem) (key : Int), In64 key → Mem.le M F → Holds w0 F M' (worldA w (gz ω)) → thicketlaw12_FibGreat.J2 pts k how s (some ⟨w, 0, none⟩) (N : Int) (i : Int) key M' := by
          intro F M' key hk hMF hW
          rw [H.J2]
          unfold thicketlaw12_FibGreat.J2.T
          obtain ⟨a, sv, hB⟩ := hW.wopen
          have ws := hB.wseen
          have hI : ω.α.Inv := hB.winv
          have hcosts := hG.costs (by omega)
          have hlenA := hG.len
          rw [hlen, hnil1] at hlenA
          simp only [List.length_nil, Nat.add_zero] at hlenA
          obtain ⟨F', hAz, hle, back⟩ := hB.warena
          have hA : Holds w0 F' M' (arenaA a ω.α) := hAz
          simp only [go_sem, add_eq, Nat.zero_add, ws.p]
          refine ItNew_ok hA (fun hnx M1 hA1 => ?_) fun c hnxt M1 β hA1 hs1 => ?_
          · exfalso
            have hfull := AS.next_full hI hnx
            omega
          obtain ⟨hcn1, hcl, hct⟩ := AS.next_some hI hnxt
          obtain ⟨hfr, hfl⟩ := AS.take_fresh hI hnxt
          have he1 : AS.Eff (· = c) (· = c) 1 3 ω.α β := ((((AS.take_eff (S := (· = c)) (L := (· = c)) hI hnxt rfl rfl).put (c := c) (f := 7) (v := key) rfl).put (c := c) (f := 8) (v := (i : Int)) rfl).trans hs1.eff).mono (fun _ h => h) (fun _ h => h) (by omega) |>.to (by omega)
          have hbl : ∀ x, β.live x = if x = c then true else ω.α.live x := fun x => by rw [hs1.live, show ((ω.α.take.put c 7 key).put c 8 (i : Int)).live = ω.α.take.live from rfl, hct]; rfl
          have hcc : ∀ k, k < 2 → c ∉ (t k).cells := fun k hk hm => by have := (hG.hp k hk).live c hm; rw [hcl] at this; cases this
          have hp1 : ∀ k, k < 2 → Hp β (ω.r k) (t k) := fun k hk => (hG.hp k hk).eff he1 (fun x hx e => hcc k hk (e ▸ hx)) (fun x hx e => hcc k hk (e ▸ hx))
          have hW1 := back M1 _ hA1
          have ws1 := hW1.wseen
          have r1 : rd w0 M1 ⟨w, 1, none⟩ = some (.int .i64 (ω.r 0)) := ws1.r 0 (by omega)
          simp only [go_sem, ws1.p]
          refine MeterSteps_ok (K := fun _ _ _ => True) hA1 fun p _ hq => ?_
          simp only [go_sem]
          refine hq.mono fun v M'' hv => ?_
          obtain ⟨rfl, rfl⟩ := hv
          simp only [go_sem, add_eq, Nat.zero_add, Nat.add_zero, t0, Nat.mul_one, Nat.zero_mul, z0, z1, and_self, true_and, ws1.p, r1]
          have hI1 := hA1.inv
          have hIst := hI1.steps
          have hlim := limH_bound (n := i + 1) (by omega)
          refine heap_push_ok hA1 (hp1 0 (by omega)) (i := c) (e := (key, (i : Int))) (by rw [hbl, if_pos rfl]) (hcc 0 (by omega)) (by rw [hs1.get, AS.put_get, if_neg (by omega), AS.put_get, if_pos ⟨rfl, rfl⟩]) (by rw [hs1.get, AS.put_get, if_pos ⟨rfl, rfl⟩]) (fun hnx2 M2 γ hA2 hs2 => ?_) fun n' hnx2 hnl2 M2 γ t' hA2 hp2 hi2 hc2 he2 => ?_
          · exfalso
            have hfull := AS.next_full hI1 hnx2
            have h1 := he1.len
            have h2 := he1.n
            omega
          have hst := he2.steps ⟨hIst.1, hIst.2.2⟩
          have hpot := HT.pot_ge t'
          have hpt := hG.pots (h := 0) (by omega)
          have hpo := HT.pot_ge (t (1 - 0))
          have hl0 := hG.hlen (h := 0) (by omega)
          try rw [hl0, hlen] at hst
          have hW2 := back M2 _ hA2
          simp only [go_sem, Bool.not_true, bs_false]
          rw [i64_succ (by omega)]
          refine cost_ok (lim := 500) hW2 (by omega) (by rw [if_neg (by omega)]) (by show 0 ≤ γ.steps - β.steps ∧ γ.steps - β.steps ≤ _; omega) hcosts.1 hcosts.2 (cost_of (t := t 0) (t' := t') (P := HT.pot (t (1 - 0))) (by show γ.steps - β.steps + _ ≤ _; omega) hpt hpo) fun M3 hW3 => ?_
          simp only [go_sem, Bool.not_true, bs_false]
          rw [H.J4]
          unfold thicketlaw12_FibGreat.J4.T
          simp only [nc_v, add_eq, Nat.zero_add, Nat.add_zero, t0, Nat.mul_one, Nat.zero_mul, z0, z1, and_self, true_and]
          refine wst_r hW3 (h := 0) (by omega) fun M4 hW4 => ?_
          rw [i64_succ (by omega)]
          have hnn : n' ≠ c ∧ ω.α.live n' = false := by
            rw [hbl] at hnl2
            split at hnl2
            · cases hnl2
            · rename_i h9; exact ⟨h9, hnl2⟩
          have heT : AS.Eff (fun x => x = c ∨ x = n' ∨ x ∈ (t 0).cells) (fun x => x = c ∨ x = n') 2 _ ω.α γ := ((he1.mono (S' := fun x => x = c ∨ x = n' ∨ x ∈ (t 0).cells) (L' := fun x => x = c ∨ x = n') (fun _ e => .inl e) (fun _ e => .inl e) (Int.le_refl _)).trans (he2.mono (fun x hx => by simp only [List.mem_cons] at hx; rcases hx with e | e | e; exact .inr (.inl e); exact .inl e; exact .inr (.inr e)) (fun x e => .inr e) (Int.le_refl _))).to (by omega)
          have hoth : Hp γ (ω.r (1 - 0)) (t (1 - 0)) := hG.other (h := 0) (by omega) heT (fun x hx => by rcases hx with rfl | rfl | hx; exact .inr hcl; exact .inr hnn.2; exact .inl hx) (fun x hx => by rcases hx with rfl | rfl; exact .inr hcl; exact .inr hnn.2)
          have hgood : Good (i + 1) ⟨γ, upd ω.r 0 t'.root, upd ω.has 0 (ω.has 0 ++ [(c, (key, (i : Int)))]), (i : Int) + 1, ω.spent + (γ.steps - β.steps), ω.most + 500⟩ (upd t 0 t') := by
            refine hG.put (h := 0) (by omega) hp2 hoth (hi2.trans ((List.Perm.cons _ (hG.its 0 (by omega))).trans (List.perm_append_singleton _ _).symm)) (fun x hx => ?_) ?_ (fun x hx => ?_) (by omega) ?_ (by omega) (by omega) ⟨by have := hG.most.1; omega, by have := hG.most.2; omega⟩
            · have := hc2.mem_iff.1 hx
              simp only [List.mem_cons] at this
              rcases this with rfl | rfl | hx
              · intro hm
                have := (hG.hp (1 - 0) (by omega)).live _ hm
                rw [hnn.2] at this; cases this
              · exact hcc (1 - 0) (by omega)
              · exact hG.dj 0 (by omega) x hx
            · have h1 := heT.len
              have h2 := hG.len_h (h := 0) (by omega)
              rw [List.length_append, List.length_singleton]
              omega
            · rcases List.mem_append.1 hx with hx | hx
              · obtain ⟨a1, a2, a3⟩ := hG.keys 0 (by omega) x hx
                exact ⟨a1, a2, by omega⟩
              · simp only [List.mem_cons, List.not_mem_nil, or_false] at hx
                subst hx
                exact ⟨hk, by show (0 : Int) ≤ (i : Int); omega, by show (i : Int) < _; omega⟩
            · have h1 := hG.ser_h (h := 0) (by omega)
              rw [List.append_assoc, List.map_append, List.singleton_append, List.map_cons]
              refine List.perm_middle.nodup_iff.2 ?_
              rw [← List.map_append]
              refine List.nodup_cons.2 ⟨fun hm => ?_, h1⟩
              obtain ⟨y, hy, he⟩ := List.mem_map.1 hm
              rcases List.mem_append.1 hy with hy | hy
              · have := (hG.keys 0 (by omega) y hy).2.2; simp only at he; omega
              · have := (hG.keys (1 - 0) (by omega) y hy).2.2; simp only at he; omega
          have f0 : (upd ω.has 0 (ω.has 0 ++ [(c, (key, (i : Int)))]) 0).length = i + 1 := by rw [upd_same, List.length_append, hlen]; rfl
          have f1 : upd ω.has 0 (ω.has 0 ++ [(c, (key, (i : Int)))]) 1 = [] := by rw [upd_ne _ _ (by omega)]; exact hnil1
          exact ih (i + 1) F M4 ⟨γ, upd ω.r 0 t'.root, upd ω.has 0 (ω.has 0 ++ [(c, (key, (i : Int)))]), (i : Int) + 1, ω.spent + (γ.steps - β.steps), ω.most + 500⟩ _ (by omega) (by omega) hMF hW4.wclose hgood (by show (i : Int) + 1 = _; omega) f0 f1 ((he2.n.trans he1.n).trans hcn)
        simp only [go_sem]
        refine ⟨trivial, by decide, ?_⟩
        have hb : In64 (Int.tmod (w64 ((i : Int) * 389)) 601) := tmod_in (w64_range _) (by omega) (by omega)
        refine newIs (n := 4) (l := [(i : Int), w64 (0 - (i : Int)), Int.tmod (w64 ((i : Int) * 389)) 601, 5]) hW Try.underlying22 W.e2 (by decide) (by kernel_rfl) rfl (fun x hx => ?_) fun M2 s2 F2 l2 l3 hW2 hs2 => ?_
        · simp only [List.mem_cons, List.not_mem_nil, or_false] at hx
          rcases hx with rfl | rfl | rfl | rfl
          · unfold In64; omega
          · exact w64_range _
          · exact hb
          · unfold In64; omega
        have hlen4 : s2.n = 4 := hs2.len
        refine WithinE_ok hhow (by omega) (by omega) (by omega) (by omega) ?_
        obtain ⟨q1, q2⟩ := withinI_in (n := how) (lo := 0) (hi := 3) (by omega)
        obtain ⟨hw, ehw⟩ : ∃ hw : Nat, withinI how 0 3 = (hw : Int) := ⟨(withinI how 0 3).toNat, by omega⟩
        rw [ehw] at q1 q2 ⊢
        obtain ⟨y, hy⟩ : ∃ y, [(i : Int), w64 (0 - (i : Int)), Int.tmod (w64 ((i : Int) * 389)) 601, 5][hw]? = some y := ⟨_, List.getElem?_eq_getElem (by simp; omega)⟩
        have hyi : In64 y := int_wf (hs2.wf y (List.mem_of_getElem? hy))
        simp only [shI_v]
        refine rdy hs2 hW2.fr hw rfl hy ?_
        rw [bs_decide]
        split
        · rename_i hi2
          have hin : i < l.length := by rw [← hs.len]; omega
          have hv := List.getElem?_eq_getElem hin
          have hvi : In64 l[i] := int_wf (hs.wf _ (List.getElem_mem hin))
          generalize l[i] = v at hv hvi
          refine rdy hs (Mem.le_trans hMF (Mem.le_trans l2 hW2.fr)) i rfl hv ?_
          refine ⟨trivial, by decide, ?_⟩
          exact j2 F2 M2 _ (tmod_in hvi (by omega) (by omega)) (Mem.le_trans hMF l2) hW2
        · exact j2 F2 M2 y hyi (Mem.le_trans hMF l2) hW2
      · have hiN : i = N := by omega
        have hbld : (std PP w0).bld 40 [(0, .int .i64 (-9223372036854775808)), (1, .int .i64 (-1))] = some (.agg #[.int .i64 (-9223372036854775808), .int .i64 (-1)]) := by kernel_rfl
        simp only [hbld, ob_v, shA_v, shCons_v, shI_v, shNil_v]
        refine box2 hW _ _ fun b M2 hX2 => ?_
        refine ⟨N + 1, l3 (N + 1) N F M2 b _ _ ω t i (by omega) (by omega) (by omega) hX2 hG (by omega) hnil1 fun x hx => ?_⟩
        have hk := hG.keys 0 (by omega) x hx
        unfold In64 at hk
        show (-9223372036854775808 : Int) < x.2.1 ∨ (-9223372036854775808 : Int) = x.2.1 ∧ (-1 : Int) < x.2.2
        omega
  exact ⟨N + 1, l1 (N + 1) 0 M M1 ⟨AS.new 1400, fun _ => -1, fun _ => [], 0, 0, 0⟩ _ (by omega) (by omega) (Mem.le_refl _) hW1 (good_fresh (by omega)) rfl rfl rfl rfl⟩

end
end Go.Proofs.Ytbkicgfgpmekeaa.HL

