/-
  ChB: the laws on rings: what is taken out, what is joined.
-/
import Derived.Test.YtoeijcmpkfjbfaaChA
import Derived.Test.YtoeijcmpkfjbfaaBkS
set_option linter.unusedVariables false
set_option linter.unusedSimpArgs false
set_option maxRecDepth 100000
namespace Go.Proofs.Ytoeijcmpkfjbfaa.HL
open Go.RowKit (Below)
open Go.Proofs

namespace AS
def RingL (α : AS) : List Nat → Prop
  | [] => False
  | c :: r => α.Ring c r
theorem RingL.turn {α : AS} {p q : List Nat} (h : α.RingL (p ++ q)) : α.RingL (q ++ p) := by
  match p, q, h with
  | [], q, h => rw [List.append_nil]; exact h
  | c :: r, [], h => rw [List.append_nil] at h; exact h
  | c :: r, d :: s, h => exact Ring.turn h
theorem Sm.ringL {k : Int} {α β : AS} (h : Sm k α β) {l : List Nat} (hr : α.RingL l) : β.RingL l := by
  cases l with
  | nil => exact hr
  | cons c r => exact h.ring hr
theorem RingL.live {α : AS} {l : List Nat} (h : α.RingL l) : ∀ x ∈ l, α.live x = true := by
  cases l with
  | nil => exact h.elim
  | cons c r => exact Ring.live h
theorem RingL.nd {α : AS} {l : List Nat} (h : α.RingL l) : l.Nodup := by
  cases l with
  | nil => exact h.elim
  | cons c r => exact Ring.nd h
theorem RingL.congr {α β : AS} {l : List Nat} (h : α.RingL l) (h3 : ∀ x ∈ l, β.get x 3 = α.get x 3) (h2 : ∀ x ∈ l, β.get x 2 = α.get x 2) (hl : ∀ x ∈ l, β.live x = α.live x) : β.RingL l := by
  cases l with
  | nil => exact h
  | cons c r => exact Ring.congr h h3 h2 hl
theorem RingL.other {α : AS} {l : List Nat} (h : α.RingL l) {x y : Nat} (hx : x ∉ l) (hy : y ∉ l) : (α.link x y).RingL l :=
  h.congr (fun z hz => by rw [link3, if_neg (fun e => hx (by rw [← e]; exact hz))]) (fun z hz => by rw [link2, if_neg (fun e => hy (by rw [← e]; exact hz))]) (fun z hz => rfl)

/-- Where none was given back the next cell is the lowest that was never taken. -/
theorem take_fresh {α : AS} (hf : α.free = []) (hn : α.never < α.n) : α.next = some α.never ∧ α.nextI = (α.never : Int) ∧ α.take = { α.lay α.never with never := α.never + 1 } := by
  have hl : α.free.getLast? = none := by rw [hf]; rfl
  have h1 : α.next = some α.never := by unfold next; rw [hl]; simp only; rw [if_pos hn]
  refine ⟨h1, by unfold nextI; rw [h1], by unfold take; rw [hl]; simp only; rw [if_pos hn]⟩
theorem RingL.take {α : AS} {l : List Nat} (h : α.RingL l) (hi : α.Inv) (hf : α.free = []) (hn : α.never < α.n) : α.take.RingL l := by
  have hx : ∀ x ∈ l, x ≠ α.never := fun x hx e => by
    have := lt_never hi (h.live x hx); omega
  rw [(take_fresh hf hn).2.2]
  refine h.congr (fun x hm => ?_) (fun x hm => ?_) (fun x hm => ?_)
  · show (if x = α.never then _ else _) = _; rw [if_neg (hx x hm)]
  · show (if x = α.never then _ else _) = _; rw [if_neg (hx x hm)]
  · show (if x = α.never then _ else _) = _; rw [if_neg (hx x hm)]
end AS

section
variable {w0 : World} {M F : Mem} {R : Value → Mem → Prop}

/-- A new cell, a ring of its own. -/
structure Born (α β : AS) (i : Nat) : Prop where
  n : β.n = α.n
  free : β.free = []
  never : β.never = i + 1
  one : β.RingL [i]
  old : ∀ l, α.RingL l → β.RingL l
  live : β.live i = true
theorem TakeOne_ok {a : Nat} {α : AS} (hA : Holds w0 F M (arenaA a α)) (hf : α.free = []) (hn : α.never < α.n) {K : Mem → Prop} {E : Mem → Prop} (h : ∀ M' β, Holds w0 F M' (arenaA a β) → Born α β α.never → K M') :
    C PP w0 Id.arena_Arena_Take #[.pointer (some ⟨a, 0, none⟩)] (fun v M1 => shT v fun l => shCons l fun u r => shI .i64 u fun n => shCons r fun u2 r2 => shB u2 fun b => shNil r2 (bs (!b) (E M1) (C PP w0 Id.chain_One #[.pointer (some ⟨a, 0, none⟩), .int .i64 (α.never : Int)] (fun _ M2 => K M2) M1))) M := by
  obtain ⟨h1, h2, h3⟩ := AS.take_fresh hf hn
  refine Take_ok hA fun M1 hA1 => ?_
  rw [h1]
  simp only [go_sem, Option.isSome_some, Bool.not_true, bs_false]
  have hlv : α.take.tick.live α.never = true := by
    show α.take.live α.never = true
    rw [h3]
    show (if α.never = α.never then true else α.live α.never) = true
    rw [if_pos rfl]
  refine One_ok hA1 hlv fun M2 β hA2 hs => ?_
  refine h M2 β hA2 ⟨?_, ?_, ?_, ?_, fun l hl => ?_, ?_⟩
  · rw [hs.n]; show α.take.n = α.n; rw [h3]; rfl
  · rw [hs.free]; show α.take.free = []; rw [h3]; exact hf
  · rw [hs.never]; show α.take.never = _; rw [h3]
  · exact hs.ringL (l := [α.never]) (AS.ring_one hlv)
  · have hx : α.never ∉ l := fun hx => by have := AS.lt_never hA.inv (hl.live _ hx); omega
    refine hs.ringL ?_
    have ht := hl.take hA.inv hf hn
    have ht2 : α.take.tick.RingL l := AS.tick_sm.ringL ht
    exact ht2.other hx hx
  · rw [hs.live]; exact hlv

theorem known6_ok (h : ∀ M', Mem.le M M' → R (.bool true) M') : C PP w0 Id.thicketlaw6_known #[] R M := by
  apply thicketlaw6_known.go
  intro pts H
  unfold thicketlaw6_known.T
  refine New_ok fun M1 a h1 => ?_
  simp only [go_sem, Option.isNone_some, bs_false]
  refine MeterSteps_ok (K := fun _ _ _ => True) h1 fun p hp _ => ?_
  have e1 : p.isNone = false := by cases p with
    | none => exact absurd rfl hp
    | some _ => rfl
  simp only [go_sem, e1, bs_false]
  rw [H.J1]
  unfold thicketlaw6_known.J1.T
  have fin : ∀ (M' : Mem) (α : AS), Holds w0 M M' (arenaA a α) → α.RingL [0] → α.RingL [1] → α.RingL [2] → thicketlaw6_known.L2 pts 1 (some ⟨a, 0, none⟩) 3 M' := by
    intro M' α hA r0 r1 r2
    rw [H.L2]
    unfold thicketlaw6_known.L2.T
    rw [bs_decide, if_neg (by omega)]
    refine Put_ok hA (c := 0) (d := 1) r0 (r1.live 1 (by simp)) fun M2 β2 hA2 s2 => ?_
    have q0 : β2.Ring 0 [1] := s2.ring (AS.ring_put r0 (by simp) (r1.live 1 (by simp)))
    have q2 : β2.Ring 2 [] := s2.ringL (l := [2]) ((AS.RingL.other (l := [2]) r2 (by simp) (by simp)).other (by simp) (by simp))
    refine All_ok hA2 q0 fun M3 s3 β3 hH3 s3' => ?_
    simp only [go_sem]
    have hr3 := hH3.rdI (by decide) (by decide)
    have hA3 := hH3.right
    refine lit_ok [0, 1] (by decide) (by kernel_rfl) rfl (by decide) fun M4 s4 l4 r4 => ?_
    refine Same_ok (hr3.le l4) r4 ?_
    rw [show decide (intsN [0, 1] = [0, 1]) = true from by decide]
    simp only [go_sem, bs_true]
    have hA4 := hA3.le l4
    refine Alone_ok hA4 (s3'.ring q2) fun M5 β5 hA5 s5 => ?_
    simp only [go_sem, decide_true, bs_true]
    refine Alone_ok hA5 (s5.ring (s3'.ring q0)) fun M6 β6 hA6 s6 => ?_
    rw [show decide (([1] : List Nat) = []) = false from by decide]
    simp only [go_sem, Bool.not_false, bs_true]
    refine Out_ok hA6 (s6.ring (s5.ring (s3'.ring q2))) (fun _ M7 β7 hA7 s7 => ?_) (fun y q e => by cases e)
    simp only [go_sem, bs_beq]
    rw [if_pos (by trivial)]
    have p0 := s7.ring (s6.ring (s5.ring (s3'.ring q0)))
    refine Out_ok hA7 p0 (fun e => by cases e) (fun y q e M8 β8 hA8 s8 => ?_)
    cases e
    simp only [go_sem, bs_beq]
    rw [if_pos (by trivial)]
    refine Alone_ok hA8 (s8.ring (AS.ring_out p0).1) fun M9 β9 hA9 s9 => ?_
    simp only [go_sem, decide_true]
    exact h _ hA9.fr
  refine ⟨4, ?_⟩
  rw [show (0 : Int) = ((AS.new 3).never : Int) from rfl, H.L2]
  unfold thicketlaw6_known.L2.T
  rw [bs_decide, if_pos (by decide)]
  refine TakeOne_ok h1 rfl (by decide) fun M2 β2 hA2 b2 => ?_
  rw [show w64 (((AS.new 3).never : Int) + 1) = (β2.never : Int) from by rw [b2.never]; rfl, H.L2]
  unfold thicketlaw6_known.L2.T
  have n2 := b2.never
  rw [bs_decide, if_pos (by rw [n2]; decide)]
  refine TakeOne_ok hA2 b2.free (by rw [b2.n, n2]; decide) fun M3 β3 hA3 b3 => ?_
  rw [n2] at b3
  rw [show w64 ((β2.never : Int) + 1) = (β3.never : Int) from by rw [n2, b3.never]; rfl, H.L2]
  unfold thicketlaw6_known.L2.T
  have n3 := b3.never
  rw [bs_decide, if_pos (by rw [n3]; decide)]
  refine TakeOne_ok hA3 b3.free (by rw [b3.n, b2.n, n3]; decide) fun M4 β4 hA4 b4 => ?_
  rw [n3] at b4
  rw [show w64 ((β3.never : Int) + 1) = 3 from by rw [n3]; rfl]
  exact fin M4 β4 hA4 (b4.old _ (b3.old _ b2.one)) (b4.old _ b3.one) b4.one

theorem intsN_wf {n : Nat} {l : List Nat} (h : ∀ x ∈ l, x < n) (hn : n ≤ 1000000) : ∀ x ∈ intsN l, (Lit.int .i64 x).wf = true := wf_all fun x hx => by
  obtain ⟨y, hy, rfl⟩ := List.mem_map.1 hx
  have := h y hy
  unfold In64; omega
theorem intsN_append (l m : List Nat) : intsN (l ++ m) = intsN l ++ intsN m := by simp [intsN]

theorem arNew_n {n : Nat} (h : n ≤ 65536) : (if (if (65536 : Int) < (n : Int) then 65536 else (n : Int)) > 0 then (if (65536 : Int) < (n : Int) then 65536 else (n : Int)) else 0).toNat = n := by
  rw [if_neg (show ¬ ((65536 : Int) < (n : Int)) by omega)]
  split <;> omega

theorem ch_out (hR : ∀ M, R (.bool true) M) {n : Int} (hn : In64 n) {outs : SV} {lo : List Int} (ho : RdI w0 M .i64 outs lo) : C PP w0 Id.thicketlaw6_ChainOut #[.int .i64 n, SV.v outs] R M := by
  apply thicketlaw6_ChainOut.go
  intro pts H
  unfold thicketlaw6_ChainOut.T
  refine Within_ok hn (by omega) (by omega) (by omega) (by omega) fun kk h1 h2 => ?_
  obtain ⟨kk, rfl⟩ : ∃ k : Nat, kk = (k : Int) := ⟨kk.toNat, by omega⟩
  simp only [go_sem]
  refine New_ok fun M1 a hA => ?_
  rw [arNew_n (by omega)] at hA
  simp only [go_sem, Option.isNone_some, bs_false]
  have hend : ∀ M, (std PP w0).call Id.thicketlaw6_known #[] (fun v38 M39 => shB v38 fun b40 => R (.bool b40) M39) M := fun M => by
    refine known6_ok fun M' _ => ?_
    simp only [go_sem]
    exact hR _
  have two : ∀ (k i : Nat) (L : List Nat) (s : SV) (M' : Mem) (α : AS), lo.length < i + k → i ≤ lo.length → Holds w0 M M' (star (SlA s ((intsN L).map (Value.int .i64))) (arenaA a α)) → α.RingL L → thicketlaw6_ChainOut.L2 pts k outs (some ⟨a, 0, none⟩) s (i : Int) M' := by
    intro k
    induction k with
    | zero => intro i L s M' α g1 g2; omega
    | succ k ih =>
      intro i L s M' α g1 g2 hH hL
      rw [H.L2]
      unfold thicketlaw6_ChainOut.L2.T
      simp only [bs_decide]
      split
      · split
        · rename_i hio hs1
          rw [H.J3]
          unfold thicketlaw6_ChainOut.J3.T
          have hInv := hH.right.inv
          have hLn : ∀ x ∈ L, x < α.n := fun x hx => AS.live_lt hInv (hL.live x hx)
          have hn6 := hInv.n
          have hLlen := nodup_len α.n L hL.nd hLn
          have hLw := intsN_wf hLn (by omega)
          have hil : (intsN L).length = L.length := by simp [intsN]
          have hrs := hH.rdI hLw (by omega)
          have hsn := hrs.len
          rw [hil] at hsn
          have hol := ho.len
          have hi : i < lo.length := by omega
          refine rdx W.c3 ho hH.fr i rfl (List.getElem?_eq_getElem hi) ?_
          rw [w64_in (n := ((s.n : Nat) : Int) - 1) (by omega)]
          refine Within_ok (ho.in64 hi) (by omega) (by omega) (by omega) (by omega) fun j hj1 hj2 => ?_
          obtain ⟨j, rfl⟩ : ∃ k : Nat, j = (k : Int) := ⟨j.toNat, by omega⟩
          rw [shI_v]
          have hjL : j < L.length := by omega
          obtain ⟨c, hc⟩ : ∃ c, L[j]? = some c := ⟨L[j], List.getElem?_eq_getElem hjL⟩
          have hcx : (intsN L)[j]? = some (c : Int) := by simp [intsN, hc]
          have hsplit : L = L.take j ++ c :: L.drop (j + 1) := by
            have e := List.drop_eq_getElem_cons hjL
            rw [List.getElem?_eq_getElem hjL] at hc
            rw [Option.some.inj hc] at e
            rw [← e, List.take_append_drop]
          have hring : α.Ring c (L.drop (j + 1) ++ L.take j) := by
            rw [hsplit] at hL
            exact hL.turn
          refine rdx W.c3 hrs (Mem.le_refl _) j rfl hcx ?_
          obtain ⟨F', hB, hFF, back⟩ := hH.last
          refine Out_ok hB hring (fun e => ?_) (fun y q e M2 β hB2 hs2 => ?_)
          · have : (L.drop (j + 1) ++ L.take j).length = 0 := by rw [e]; rfl
            rw [List.length_append, List.length_take] at this; omega
          rw [shI_v]
          rw [e] at hring
          obtain ⟨ho1, ho2⟩ := AS.ring_out hring
          have hnew : β.RingL (L.take j ++ L.drop (j + 1)) := by
            refine AS.RingL.turn ?_
            rw [e]; exact hs2.ring ho1
          have hH2 := back M2 _ hB2
          have hrs2 := hH2.rdI hLw (by omega)
          refine rdx W.c3 hrs2 (Mem.le_refl _) j rfl hcx ?_
          refine Alone_ok hB2 (hs2.ring ho2) fun M3 β3 hB3 hs3 => ?_
          simp only [shB_v, decide_true, Bool.not_true, bs_false]
          have hH3 := back M3 _ hB3
          have hrs3 := hH3.rdI hLw (by omega)
          have hA3 := hH3.right
          have hnew3 := hs3.ringL hnew
          have hcap := hrs3.cap
          have ew : w64 ((j : Int) + 1) = ((j + 1 : Nat) : Int) := by rw [w64_in (by omega)]; omega
          rw [ew]
          refine ⟨⟨by omega, by omega, by omega⟩, ⟨by omega, by omega, by omega⟩, ?_⟩
          refine bsl_ints (k := .i64) (l := []) (Mem.le_refl _) Try.underlying44 W.e3 (by decide) (by kernel_rfl) rfl fun M4 f l4 _ h4 => ?_
          rw [shS_sv]
          refine app_rd (M0 := M3) (x := ⟨_, _, _⟩) (m := (intsN L).take j) Try.underlying44 W.e3 l4 h4 ((hrs3.sub (i := 0) 0 rfl (by omega)).take (i := j) (by simp; omega) (fun _ => rfl) (c := s.c - 0) (by omega)) l4 (by simp; omega) fun M5 s5 l5 h5 => ?_
          rw [shS_sv, List.nil_append] at *
          refine app_rd (M0 := M3) (x := ⟨_, _, _⟩) (m := (intsN L).drop (j + 1)) Try.underlying44 W.e3 l5 h5 (hrs3.sub (i := ((j + 1 : Nat) : Int)) (j + 1) (Int.toNat_natCast _) (by omega)) l5 (by simp; omega) fun M6 s6 l6 h6 => ?_
          rw [shS_sv]
          have hint : (intsN L).take j ++ (intsN L).drop (j + 1) = intsN (L.take j ++ L.drop (j + 1)) := by simp [intsN, List.map_take, List.map_drop]
          rw [hint] at h6
          have hH6 := hA3.newSl l6 h6
          have hLn6 : ∀ x ∈ L.take j ++ L.drop (j + 1), x < α.n := fun x hx => hLn x (by
            rcases List.mem_append.1 hx with hx | hx
            · exact List.mem_of_mem_take hx
            · exact List.mem_of_mem_drop hx)
          have hL6 := intsN_wf hLn6 (by omega)
          have hrs6 := hH6.rdI hL6 (by simp [intsN]; omega)
          obtain ⟨c6, r6, e6⟩ : ∃ c6 r6, L.take j ++ L.drop (j + 1) = c6 :: r6 := by
            cases h : L.take j ++ L.drop (j + 1) with
            | nil => rw [h] at hnew; exact hnew.elim
            | cons c r => exact ⟨c, r, rfl⟩
          rw [e6] at hnew3 hrs6 hH6 hL6
          refine rdx W.c3 hrs6 (Mem.le_refl _) 0 (by rfl) (x := (c6 : Int)) rfl ?_
          obtain ⟨F6, hB6, _, back6⟩ := hH6.last
          refine All_ok hB6 hnew3 fun M7 s7 β7 hH7 hs7 => ?_
          rw [shS_sv]
          have hH7' := back6 M7 _ hH7
          have hr7 := hH7'.rot.rdI hL6 (by rw [← e6]; simp [intsN]; omega)
          have hr6 := hH7'.rdI hL6 (by rw [← e6]; simp [intsN]; omega)
          refine Same_ok hr7 hr6 ?_
          simp only [shB_v, decide_true, Bool.not_true, bs_false]
          have hom := ho.max
          rw [w64_in (by omega)]
          exact ih (i + 1) (c6 :: r6) s6 M7 β7 (by omega) (by omega) hH7'.rot.right (hs7.ringL hnew3)
        · exact hend _
      · exact hend _
  have one : ∀ (k i : Nat) (s : SV) (M' : Mem) (α : AS), i ≤ kk → kk < i + k → Holds w0 M M' (star (SlA s ((intsN (List.range i)).map (Value.int .i64))) (arenaA a α)) → α.n = kk → α.free = [] → α.never = i → (0 < i → α.RingL (List.range i)) →
      thicketlaw6_ChainOut.L1 pts k outs (kk : Int) (some ⟨a, 0, none⟩) s (i : Int) M' := by
    intro k
    induction k with
    | zero => intro i s M' α g1 g2; omega
    | succ k ih =>
      intro i s M' α g1 g2 hH hαn hαf hαi hL
      rw [H.L1]
      unfold thicketlaw6_ChainOut.L1.T
      rw [bs_decide]
      split
      · obtain ⟨F', hB, hFF, back⟩ := hH.last
        rw [← hαi]
        refine TakeOne_ok hB hαf (by omega) fun M2 β hB2 b2 => ?_
        rw [hαi] at b2 ⊢
        have hrange : List.range (i + 1) = List.range i ++ [i] := List.range_succ
        have push : ∀ (M3 : Mem) (β3 : AS), Holds w0 M M3 (star (SlA s ((intsN (List.range i)).map (Value.int .i64))) (arenaA a β3)) → β3.n = kk → β3.free = [] → β3.never = i + 1 → β3.RingL (List.range (i + 1)) →
            (std PP w0).bsl 44 1 [(0, .int .i64 (i : Int))] (fun v29 M30 => shS v29 fun s31 => (std PP w0).app #[44, 44] 44 [SV.v s, SV.v s31] (fun v32 M33 => shS v32 fun s34 => thicketlaw6_ChainOut.L1 pts k outs (kk : Int) (some ⟨a, 0, none⟩) s34 (w64 ((i : Int) + 1)) M33) M30) M3 := by
          intro M3 β3 hH3 e1 e2 e3 e4
          refine push_ok hH3 (by simp [intsN]; omega) fun M4 s4 hH4 => ?_
          rw [show intsN (List.range i) ++ [(i : Int)] = intsN (List.range (i + 1)) from by rw [hrange]; simp [intsN]] at hH4
          rw [w64_in (by omega)]
          exact ih (i + 1) s4 M4 β3 (by omega) (by omega) hH4 e1 e2 e3 (fun _ => e4)
        rw [bs_decide]
        split
        · rename_i hi0
          obtain ⟨i, rfl⟩ : ∃ i', i = i' + 1 := ⟨i - 1, by omega⟩
          have hold := b2.old _ (hL (by omega))
          rw [List.range_succ] at hold
          have hring : β.Ring i (List.range i) := hold.turn
          rw [show w64 (((i + 1 : Nat) : Int) - 1) = (i : Int) from by rw [w64_in (by omega)]; omega]
          refine Put_ok hB2 hring b2.live fun M3 β3 hB3 hs3 => ?_
          have hd : i + 1 ∉ i :: List.range i := by simp
          have hput := hs3.ring (AS.ring_put hring hd b2.live)
          refine push M3 β3 (back M3 _ hB3) (by rw [hs3.n]; exact b2.n.trans hαn) (by rw [hs3.free]; exact b2.free) (by rw [hs3.never]; exact b2.never) ?_
          rw [hrange, List.range_succ, List.append_assoc]
          exact AS.RingL.turn (p := [i, i + 1]) (q := List.range i) hput
        · have : i = 0 := by omega
          subst this
          exact push M2 β (back M2 _ hB2) (b2.n.trans hαn) b2.free b2.never b2.one
      · have hi : i = kk := by omega
        subst hi
        exact ⟨lo.length + 1, two (lo.length + 1) 0 (List.range i) s M' α (by omega) (by omega) hH (hL (by omega))⟩
  exact ⟨kk + 1, one (kk + 1) 0 ⟨none, 0, 0⟩ M1 (AS.new kk) (by omega) (by omega) hA.nilSl rfl rfl rfl (fun h => by omega)⟩

def rangeB (x m : Nat) : List Nat := (List.range m).map (x + ·)
theorem rangeB_succ (x m : Nat) : rangeB x (m + 1) = rangeB x m ++ [x + m] := by simp [rangeB, List.range_succ]
theorem mem_rangeB {x m z : Nat} (h : z ∈ rangeB x m) : x ≤ z ∧ z < x + m := by
  obtain ⟨j, hj, rfl⟩ := List.mem_map.1 h
  have := List.mem_range.1 hj
  omega
theorem rangeB_len (x m : Nat) : (rangeB x m).length = m := by simp [rangeB]
theorem rangeB_get {x m j : Nat} (h : j < m) : (rangeB x m)[j]? = some (x + j) := by simp [rangeB, h]

/-- A ring from one of its cells on. -/
theorem ring_at {α : AS} {L : List Nat} {j c : Nat} (h : α.RingL L) (hc : L[j]? = some c) : α.Ring c (L.drop (j + 1) ++ L.take j) := by
  have hj := (List.getElem?_eq_some_iff.1 hc).1
  have hsplit : L = L.take j ++ c :: L.drop (j + 1) := by
    have e := List.drop_eq_getElem_cons hj
    rw [List.getElem?_eq_getElem hj] at hc
    rw [Option.some.inj hc] at e
    rw [← e, List.take_append_drop]
  rw [hsplit] at h
  exact h.turn

theorem ch_joins (hR : ∀ M, R (.bool true) M) {n m c d : Int} (hn : In64 n) (hm : In64 m) (hc : In64 c) (hd : In64 d) : C PP w0 Id.thicketlaw6_ChainJoins #[.int .i64 n, .int .i64 m, .int .i64 c, .int .i64 d] R M := by
  apply thicketlaw6_ChainJoins.go
  intro pts H
  unfold thicketlaw6_ChainJoins.T
  refine Within_ok hn (by omega) (by omega) (by omega) (by omega) fun x hx1 hx2 => ?_
  obtain ⟨x, rfl⟩ : ∃ k : Nat, x = (k : Int) := ⟨x.toNat, by omega⟩
  rw [shI_v]
  refine Within_ok hm (by omega) (by omega) (by omega) (by omega) fun y hy1 hy2 => ?_
  obtain ⟨y, rfl⟩ : ∃ k : Nat, y = (k : Int) := ⟨y.toNat, by omega⟩
  rw [shI_v]
  have exy : w64 ((x : Int) + (y : Int)) = ((x + y : Nat) : Int) := by rw [w64_in (by omega)]; omega
  rw [exy]
  refine New_ok fun M1 a hA => ?_
  rw [arNew_n (by omega)] at hA
  simp only [go_sem, Option.isNone_some, bs_false]
  have hend : ∀ M, (std PP w0).call Id.thicketlaw6_known #[] (fun v38 M39 => shB v38 fun b40 => R (.bool b40) M39) M := fun M => by
    refine known6_ok fun M' _ => ?_
    simp only [go_sem]
    exact hR _
  have fin : ∀ (M' : Mem) (α : AS) (k : Nat), Holds w0 M M' (arenaA a α) → α.RingL (List.range x) → α.RingL (rangeB x y) → thicketlaw6_ChainJoins.L1 pts (k + 1) c d (x : Int) (y : Int) (some ⟨a, 0, none⟩) ((x + y : Nat) : Int) M' := by
    intro M' α k hA hRA hRB
    rw [H.L1]
    unfold thicketlaw6_ChainJoins.L1.T
    rw [exy, bs_decide, if_neg (by omega), w64_in (n := (x : Int) - 1) (by omega), w64_in (n := (y : Int) - 1) (by omega)]
    refine Within_ok hc (by omega) (by omega) (by omega) (by omega) fun p hp1 hp2 => ?_
    obtain ⟨p, rfl⟩ : ∃ k : Nat, p = (k : Int) := ⟨p.toNat, by omega⟩
    rw [shI_v]
    refine Within_ok hd (by omega) (by omega) (by omega) (by omega) fun q hq1 hq2 => ?_
    obtain ⟨q, rfl⟩ : ∃ k : Nat, q = (k : Int) := ⟨q.toNat, by omega⟩
    rw [shI_v]
    have epq : w64 ((x : Int) + (q : Int)) = ((x + q : Nat) : Int) := by rw [w64_in (by omega)]; omega
    rw [epq]
    have hpx : (List.range x)[p]? = some p := List.getElem?_range (by omega)
    have hqy : (rangeB x y)[q]? = some (x + q) := rangeB_get (by omega)
    have rp := ring_at hRA hpx
    have rq := ring_at hRB hqy
    have lr : ((List.range x).drop (p + 1) ++ (List.range x).take p).length = x - 1 := by simp; omega
    have ls : ((rangeB x y).drop (q + 1) ++ (rangeB x y).take q).length = y - 1 := by simp [rangeB_len]; omega
    have mr : ∀ z ∈ p :: ((List.range x).drop (p + 1) ++ (List.range x).take p), z < x := by
      intro z hz
      rcases List.mem_cons.1 hz with rfl | hz
      · omega
      · rcases List.mem_append.1 hz with hz | hz
        · exact List.mem_range.1 (List.mem_of_mem_drop hz)
        · exact List.mem_range.1 (List.mem_of_mem_take hz)
    have ms : ∀ z ∈ (x + q) :: ((rangeB x y).drop (q + 1) ++ (rangeB x y).take q), x ≤ z ∧ z < x + y := by
      intro z hz
      rcases List.mem_cons.1 hz with rfl | hz
      · omega
      · rcases List.mem_append.1 hz with hz | hz
        · exact mem_rangeB (List.mem_of_mem_drop hz)
        · exact mem_rangeB (List.mem_of_mem_take hz)
    generalize (List.range x).drop (p + 1) ++ (List.range x).take p = r at rp lr mr
    generalize (rangeB x y).drop (q + 1) ++ (rangeB x y).take q = s at rq ls ms
    have wr := intsN_wf mr (by omega)
    have ws := intsN_wf (fun z hz => (ms z hz).2) (by omega)
    refine All_ok hA rp fun M2 s34 β2 hH2 hs2 => ?_
    rw [shS_sv]
    obtain ⟨F2, hB2, _, back2⟩ := hH2.last
    refine All_ok hB2 (hs2.ring rq) fun M3 s37 β3 hH3 hs3 => ?_
    have hH3' := back2 M3 _ hH3
    rw [shS_sv]
    have r34 := hH3'.rdI wr (by simp [intsN]; omega)
    have r37 := hH3'.rot.rdI ws (by simp [intsN]; omega)
    have l34 := r34.len
    have l37 := r37.len
    simp only [intsN, List.length_map, List.length_cons] at l34 l37
    rw [bs_bne, if_pos (by omega), bs_bne, if_pos (by omega), H.J2]
    unfold thicketlaw6_ChainJoins.J2.T
    have rp3 := hs3.ring (hs2.ring rp)
    have rq3 := hs3.ring (hs2.ring rq)
    obtain ⟨F3, hB3, _, back3⟩ := hH3'.last3
    refine Join_ok hB3 rp3 rq3 fun M4 β4 hB4 hs4 => ?_
    have hH4 := back3 M4 _ hB4
    have rj := hs4.ring (AS.ring_join rp3 rq3 (fun z hz h => by have := (ms z hz).1; have := mr z h; omega))
    have r34' := hH4.rdI wr (by simp [intsN]; omega)
    have r37' := hH4.rot.rdI ws (by simp [intsN]; omega)
    have hA4 := hH4.right.right
    have c34 := r34'.cap
    refine ⟨⟨by omega, by omega, by omega⟩, ?_⟩
    refine bsl_ints (k := .i64) (l := [(p : Int)]) (Mem.le_refl _) Try.underlying44 W.e3 (n := 1) (by decide) (by kernel_rfl) rfl fun M5 f l5 _ h5 => ?_
    rw [shS_sv]
    refine app_rd (M0 := M4) (x := s37) (m := intsN ((x + q) :: s)) Try.underlying44 W.e3 l5 h5 r37' l5 (by simp [intsN]; omega) fun M6 s6 l6 h6 => ?_
    rw [shS_sv]
    refine app_rd (M0 := M4) (x := ⟨_, _, _⟩) (m := (intsN (p :: r)).drop 1) Try.underlying44 W.e3 l6 h6 (r34'.sub (i := 1) 1 rfl (by omega)) l6 (by simp [intsN]; omega) fun M7 s7 l7 h7 => ?_
    rw [shS_sv]
    have hint : [(p : Int)] ++ intsN ((x + q) :: s) ++ (intsN (p :: r)).drop 1 = intsN (p :: ((x + q) :: s ++ r)) := by simp [intsN]
    rw [hint] at h7
    have hH7 := hA4.newSl l7 h7
    have hmall : ∀ z ∈ p :: ((x + q) :: s ++ r), z < x + y := by
      intro z hz
      rcases List.mem_cons.1 hz with rfl | hz
      · omega
      · rcases List.mem_append.1 hz with hz | hz
        · exact (ms z hz).2
        · have := mr z (List.mem_cons_of_mem _ hz); omega
    have wall := intsN_wf hmall (by omega)
    obtain ⟨F7, hB7, _, back7⟩ := hH7.last
    refine All_ok hB7 rj fun M8 s8 β8 hH8 hs8 => ?_
    have hH8' := back7 M8 _ hH8
    rw [shS_sv]
    have lall : (intsN (p :: ((x + q) :: s ++ r))).length ≤ 1000000 := by simp [intsN]; omega
    refine Same_ok (hH8'.rot.rdI wall lall) (hH8'.rdI wall lall) ?_
    simp only [shB_v, decide_true, bs_true]
    have rj8 : β8.Ring (x + q) (s ++ r ++ p :: []) := AS.Ring.turn (r := []) (hs8.ring rj)
    refine All_ok hH8'.right.right rj8 fun M9 s9 β9 hH9 hs9 => ?_
    rw [shS_sv]
    have m9 : ∀ z ∈ (x + q) :: (s ++ r ++ [p]), z < x + y := by
      intro z hz
      refine hmall z ?_
      simp only [List.mem_cons, List.mem_append, List.not_mem_nil, or_false] at hz ⊢
      rcases hz with h | (h | h) | h
      · exact .inr (.inl (.inl h))
      · exact .inr (.inl (.inr h))
      · exact .inr (.inr h)
      · exact .inl h
    have r9 := hH9.rdI (intsN_wf m9 (by omega)) (by simp [intsN]; omega)
    have l9 := r9.len
    simp only [intsN, List.length_map, List.length_cons, List.length_append, List.length_nil] at l9
    rw [bs_beq, if_pos (by omega)]
    exact hend _
  have one : ∀ (k i : Nat) (M' : Mem) (α : AS), i ≤ x + y → x + y < i + k → Holds w0 M M' (arenaA a α) → α.n = x + y → α.free = [] → α.never = i → (0 < i → α.RingL (List.range (min i x))) → (x < i → α.RingL (rangeB x (i - x))) →
      thicketlaw6_ChainJoins.L1 pts k c d (x : Int) (y : Int) (some ⟨a, 0, none⟩) (i : Int) M' := by
    intro k
    induction k with
    | zero => intro i M' α g1 g2; omega
    | succ k ih =>
      intro i M' α g1 g2 hA hαn hαf hαi hRA hRB
      by_cases hlt : i < x + y
      · rw [H.L1]
        unfold thicketlaw6_ChainJoins.L1.T
        rw [exy, bs_decide, if_pos (by omega)]
        rw [← hαi]
        refine TakeOne_ok hA hαf (by omega) fun M2 β hB2 b2 => ?_
        rw [hαi] at b2 ⊢
        have hnx : w64 ((i : Int) + 1) = ((i + 1 : Nat) : Int) := by rw [w64_in (by omega)]; omega
        rw [hnx, bs_decide]
        split
        · rename_i hi0
          obtain ⟨i, rfl⟩ : ∃ i', i = i' + 1 := ⟨i - 1, by omega⟩
          have hprev : w64 (((i + 1 : Nat) : Int) - 1) = (i : Int) := by rw [w64_in (by omega)]; omega
          rw [bs_bne]
          split
          · rename_i hix
            have hix' : i + 1 = x := by omega
            refine ih (i + 1 + 1) M2 β (by omega) (by omega) hB2 (b2.n.trans hαn) b2.free b2.never (fun _ => ?_) (fun _ => ?_)
            · have := b2.old _ (hRA (by omega))
              rw [show min (i + 1) x = x from by omega] at this
              rw [show min (i + 1 + 1) x = x from by omega]; exact this
            · rw [show i + 1 + 1 - x = 1 from by omega]
              have e : rangeB x 1 = [i + 1] := by rw [← hix']; rfl
              rw [e]; exact b2.one
          · rename_i hix
            rw [hprev]
            by_cases hlx : i + 1 < x
            · have hold := b2.old _ (hRA (by omega))
              rw [show min (i + 1) x = i + 1 from by omega, List.range_succ] at hold
              have hring : β.Ring i (List.range i) := hold.turn
              refine Put_ok hB2 hring b2.live fun M3 β3 hB3 hs3 => ?_
              have hput := hs3.ring (AS.ring_put hring (by simp) b2.live)
              refine ih (i + 1 + 1) M3 β3 (by omega) (by omega) hB3 (by rw [hs3.n]; exact b2.n.trans hαn) (by rw [hs3.free]; exact b2.free) (by rw [hs3.never]; exact b2.never) (fun _ => ?_) (fun h => by omega)
              rw [show min (i + 1 + 1) x = i + 1 + 1 from by omega, List.range_succ, List.range_succ, List.append_assoc]
              exact AS.RingL.turn (p := [i, i + 1]) (q := List.range i) hput
            · have hgx : x < i + 1 := by omega
              have hold := b2.old _ (hRB hgx)
              have holdA := b2.old _ (hRA (by omega))
              rw [show min (i + 1) x = x from by omega] at holdA
              rw [show i + 1 - x = (i - x) + 1 from by omega, rangeB_succ, show x + (i - x) = i from by omega] at hold
              have hring : β.Ring i (rangeB x (i - x)) := hold.turn
              have hni : ∀ z ∈ rangeB x (i - x), x ≤ z ∧ z < i := fun z hz => by have := mem_rangeB hz; omega
              have hdn : i + 1 ∉ i :: rangeB x (i - x) := by
                intro h
                rcases List.mem_cons.1 h with h | h
                · omega
                · have := hni _ h; omega
              refine Put_ok hB2 hring b2.live fun M3 β3 hB3 hs3 => ?_
              have hput := hs3.ring (AS.ring_put hring hdn b2.live)
              have hheadx : (rangeB x (i - x)).headD i ∉ List.range x := by
                intro h
                have h1 := List.mem_range.1 h
                have : (rangeB x (i - x)).headD i = i ∨ (rangeB x (i - x)).headD i ∈ rangeB x (i - x) := by
                  cases rangeB x (i - x) <;> simp
                rcases this with e | e
                · omega
                · have := hni _ e; omega
              refine ih (i + 1 + 1) M3 β3 (by omega) (by omega) hB3 (by rw [hs3.n]; exact b2.n.trans hαn) (by rw [hs3.free]; exact b2.free) (by rw [hs3.never]; exact b2.never) (fun _ => ?_) (fun _ => ?_)
              · rw [show min (i + 1 + 1) x = x from by omega]
                refine hs3.ringL (AS.RingL.other (AS.RingL.other holdA ?_ ?_) ?_ hheadx)
                · intro h; have := List.mem_range.1 h; omega
                · intro h; have := List.mem_range.1 h; omega
                · intro h; have := List.mem_range.1 h; omega
              · rw [show i + 1 + 1 - x = (i - x) + 1 + 1 from by omega, rangeB_succ, rangeB_succ, show x + (i - x) = i from by omega, show x + (i - x + 1) = i + 1 from by omega, List.append_assoc]
                exact AS.RingL.turn (p := [i, i + 1]) (q := rangeB x (i - x)) hput
        · have : i = 0 := by omega
          subst this
          refine ih 1 M2 β (by omega) (by omega) hB2 (b2.n.trans hαn) b2.free b2.never (fun _ => ?_) (fun h => by omega)
          rw [show min 1 x = 1 from by omega]; exact b2.one
      · have hi : i = x + y := by omega
        subst hi
        have e1 := hRA (by omega)
        have e2 := hRB (by omega)
        rw [show min (x + y) x = x from by omega] at e1
        rw [show x + y - x = y from by omega] at e2
        exact fin M' α k hA e1 e2
  exact ⟨x + y + 1, one (x + y + 1) 0 M1 (AS.new (x + y)) (by omega) (by omega) hA rfl rfl rfl (fun h => by omega) (fun h => by omega)⟩

end
end Go.Proofs.Ytoeijcmpkfjbfaa.HL
