/-
  ArC: cells that are taken are nobody else's.
-/
import Derived.Test.YtoeijcmpkfjbfaaArB
set_option linter.unusedVariables false
set_option linter.unusedSimpArgs false
set_option maxRecDepth 100000
namespace Go.Proofs.Ytoeijcmpkfjbfaa.HL
open Go.RowKit (Below)
open Go.Proofs

def hasV (has : Nat → Int) : List Value := (List.range 8).map fun k => Value.int .i64 (has k)
def inV (inn : Nat → Bool) : List Value := (List.range 8).map fun k => Value.bool (inn k)
theorem hasV_get {has : Nat → Int} {k : Nat} (h : k < 8) : (hasV has)[k]? = some (.int .i64 (has k)) := by simp [hasV, h]
theorem inV_get {inn : Nat → Bool} {k : Nat} (h : k < 8) : (inV inn)[k]? = some (.bool (inn k)) := by simp [inV, h]
theorem hasV_set {has : Nat → Int} {k : Nat} {v : Int} : (hasV has).set k (.int .i64 v) = hasV fun j => if j = k then v else has j := by
  apply List.ext_getElem?
  intro j
  rw [List.getElem?_set]
  simp only [hasV, List.length_map, List.length_range, List.getElem?_map]
  by_cases hj : j < 8
  · rw [List.getElem?_range hj]
    by_cases e : k = j
    · subst e; simp [hj]
    · rw [if_neg e]; simp [Ne.symm e]
  · rw [List.getElem?_eq_none (by simp; omega)]
    simp; omega
theorem inV_set {inn : Nat → Bool} {k : Nat} {v : Bool} : (inV inn).set k (.bool v) = inV fun j => if j = k then v else inn j := by
  apply List.ext_getElem?
  intro j
  rw [List.getElem?_set]
  simp only [inV, List.length_map, List.length_range, List.getElem?_map]
  by_cases hj : j < 8
  · rw [List.getElem?_range hj]
    by_cases e : k = j
    · subst e; simp [hj]
    · rw [if_neg e]; simp [Ne.symm e]
  · rw [List.getElem?_eq_none (by simp; omega)]
    simp; omega

structure Good8 (α : AS) (has : Nat → Int) (inn : Nat → Bool) : Prop where
  n : α.n = 8
  live : ∀ k, k < 8 → α.live k = inn k
  has : ∀ k, k < 8 → inn k = true → α.get k 7 = has k

section
variable {w0 : World} {M M0 F : Mem}

theorem ar_cells {R : Value → Mem → Prop} (hR : ∀ M, R (.bool true) M) {s : SV} {l : List Int} (hs : RdF w0 M 4 s l) : C PP w0 Id.thicketlaw5_ArenaCells #[SV.v s] R M := by
  apply thicketlaw5_ArenaCells.go
  intro pts H
  unfold thicketlaw5_ArenaCells.T
  refine New_ok fun M1 a h1 => ?_
  simp only [go_sem, Option.isNone_some, bs_false]
  intro bh hb1 hw1
  intro bi hb2 hw2
  have H1 := ((h1.new hb1 hw1 (hasV fun _ => 0) 25).new hb2 hw2 (inV fun _ => false) 26).rot
  have hend : ∀ M, (std PP w0).call Id.thicketlaw5_known #[] (fun v38 M39 => shB v38 fun b40 => R (.bool b40) M39) M := fun M => by
    refine known5_ok fun M' _ => ?_
    simp only [go_sem]
    exact hR _
  have inner : ∀ (k i : Nat), (∀ (M' : Mem) (α : AS) (has : Nat → Int) (inn : Nat → Bool), Holds w0 M M' (star (row1 bh (hasV has) 25) (star (row1 bi (inV inn) 26) (arenaA a α))) → Good8 α has inn → thicketlaw5_ArenaCells.L1 pts k s (some ⟨a, 0, none⟩) ⟨bh, 0, none⟩ ⟨bi, 0, none⟩ (w64 ((i : Int) + 1)) M') →
      ∀ (k' j : Nat) (M' : Mem) (α : AS) (has : Nat → Int) (inn : Nat → Bool), j ≤ 8 → 8 < j + k' → Holds w0 M M' (star (row1 bh (hasV has) 25) (star (row1 bi (inV inn) 26) (arenaA a α))) → Good8 α has inn →
      thicketlaw5_ArenaCells.L5 pts k k' s (some ⟨a, 0, none⟩) ⟨bh, 0, none⟩ ⟨bi, 0, none⟩ (i : Int) ((List.range j).countP inn : Int) (j : Int) M' := by
    intro k i hnext k'
    induction k' with
    | zero => intro j M' α has inn g1 g2; omega
    | succ k' ih =>
      intro j M' α has inn g1 g2 hH hG
      rw [H.L5]
      unfold thicketlaw5_ArenaCells.L5.T
      obtain ⟨F', hA, hFF, back⟩ := hH.last3
      have oh := hH.own1
      have oi := hH.rot.own1
      rw [bs_decide]
      split
      · rename_i hj
        have hj8 : j < 8 := by omega
        have ri : rd w0 M' ⟨bi, j, none⟩ = some (.bool (inn j)) := by rw [rd_own oi]; exact inV_get hj8
        have rh : rd w0 M' ⟨bh, j, none⟩ = some (.int .i64 (has j)) := by rw [rd_own oh]; exact hasV_get hj8
        have hlive : α.liveI (j : Int) = inn j := by
          unfold AS.liveI
          rw [decide_eq_true (by omega), Int.toNat_natCast, hG.live j hj8]; rfl
        have hcount : ((List.range (j + 1)).countP inn : Int) = (List.range j).countP inn + (if inn j = true then 1 else 0) := by
          rw [List.range_succ, List.countP_append]
          simp only [List.countP_cons, List.countP_nil]
          split <;> simp
        have hle8 : ((List.range j).countP inn : Int) ≤ 8 := by
          have := List.countP_le_length (p := inn) (l := List.range j)
          simp at this; omega
        have six : ∀ (M2 : Mem) (α2 : AS), Holds w0 M M2 (star (row1 bh (hasV has) 25) (star (row1 bi (inV inn) 26) (arenaA a α2))) → Good8 α2 has inn →
            thicketlaw5_ArenaCells.J6 pts k k' s (some ⟨a, 0, none⟩) ⟨bh, 0, none⟩ ⟨bi, 0, none⟩ (i : Int) ((List.range j).countP inn : Int) (j : Int) M2 := by
          intro M2 α2 hH2 hG2
          rw [H.J6]
          unfold thicketlaw5_ArenaCells.J6.T
          have ri2 : rd w0 M2 ⟨bi, j, none⟩ = some (.bool (inn j)) := by rw [rd_own hH2.rot.own1]; exact inV_get hj8
          simp only [go_sem, add_eq, Nat.zero_add, Int.toNat_natCast, Nat.mul_one, ri2]
          refine ⟨⟨by omega, by omega⟩, ?_⟩
          have hnx := ih (j + 1) M2 α2 has inn (by omega) (by omega) hH2 hG2
          rw [hcount] at hnx
          have ej : w64 ((j : Int) + 1) = ((j + 1 : Nat) : Int) := by rw [w64_in (by omega)]; omega
          rw [ej, bs_b]
          refine ⟨fun h => ?_, fun h => ?_⟩
          · rw [if_pos h] at hnx
            rw [w64_in (by omega)]; exact hnx
          · rw [if_neg (by simp [h])] at hnx
            rw [Int.add_zero] at hnx; exact hnx
        simp only [go_sem, add_eq, Nat.zero_add, Int.toNat_natCast, Nat.mul_one, ri]
        refine ⟨⟨by omega, by omega⟩, ?_⟩
        refine Live_ok hA ?_
        rw [hlive]
        simp only [go_sem, add_eq, Nat.zero_add, Int.toNat_natCast, Nat.mul_one, beq_self_eq_true, Bool.not_true, bs_false, ri, rh]
        refine ⟨⟨by omega, by omega⟩, ?_⟩
        rw [bs_b]
        refine ⟨fun h => ?_, fun h => ?_⟩
        · refine ⟨⟨by omega, by omega⟩, by trivial, ?_⟩
          refine Get_ok hA fun M2 hA2 => ?_
          have hH2 := back M2 _ hA2
          have rh2 : rd w0 M2 ⟨bh, j, none⟩ = some (.int .i64 (has j)) := by rw [rd_own hH2.own1]; exact hasV_get hj8
          have hget : α.getI (j : Int) 7 = has j := by
            unfold AS.getI AS.hasI
            rw [hlive, h]
            simp only [Bool.true_and]
            rw [if_pos (by decide)]
            exact hG.has j hj8 h
          rw [hget]
          simp only [go_sem, rh2, bs_bne]
          refine ⟨by trivial, ?_⟩
          rw [if_pos (by trivial)]
          exact six M2 _ hH2 ⟨hG.n, hG.live, hG.has⟩
        · exact ⟨by trivial, six M' α hH hG⟩
      · have hj : j = 8 := by omega
        subst hj
        refine Len_ok hA ?_
        have hlen : (α.len : Int) = ((List.range 8).countP inn : Int) := by
          unfold AS.len
          have h1 := hA.inv.never
          have h2 := AS.countP_out α.live (8 - α.never) α.never hA.inv.live
          rw [hG.n] at h1
          rw [show α.never + (8 - α.never) = 8 from by omega] at h2
          rw [← h2]
          congr 1
          exact List.countP_congr fun x hx => by rw [hG.live x (List.mem_range.1 hx)]
        rw [hlen]
        simp only [go_sem, bs_bne]
        rw [if_pos (by trivial)]
        exact hnext M' α has inn hH hG
  have key : ∀ (k i : Nat) (M' : Mem) (α : AS) (has : Nat → Int) (inn : Nat → Bool), 60 < i + k → i ≤ 60 → Holds w0 M M' (star (row1 bh (hasV has) 25) (star (row1 bi (inV inn) 26) (arenaA a α))) → Good8 α has inn →
      thicketlaw5_ArenaCells.L1 pts k s (some ⟨a, 0, none⟩) ⟨bh, 0, none⟩ ⟨bi, 0, none⟩ (i : Int) M' := by
    intro k
    induction k with
    | zero => intro i M' α has inn g1 g2; omega
    | succ k ih =>
      intro i M' α has inn g1 g2 hH hG
      rw [H.L1]
      unfold thicketlaw5_ArenaCells.L1.T
      simp only [bs_decide]
      split
      · split
        · rename_i hil hi60
          have three : ∀ (M2 : Mem) (α2 : AS) (has2 : Nat → Int) (inn2 : Nat → Bool), Holds w0 M M2 (star (row1 bh (hasV has2) 25) (star (row1 bi (inV inn2) 26) (arenaA a α2))) → Good8 α2 has2 inn2 →
              thicketlaw5_ArenaCells.J3 pts k s (some ⟨a, 0, none⟩) ⟨bh, 0, none⟩ ⟨bi, 0, none⟩ (i : Int) M2 := by
            intro M2 α2 has2 inn2 hH2 hG2
            rw [H.J3]
            unfold thicketlaw5_ArenaCells.J3.T
            refine ⟨9, inner k i (fun M3 α3 has3 inn3 hH3 hG3 => ?_) 9 0 M2 α2 has2 inn2 (by omega) (by omega) hH2 hG2⟩
            rw [w64_in (by omega)]
            exact ih (i + 1) M3 α3 has3 inn3 (by omega) (by omega) hH3 hG3
          -- a cell is taken
          have took : ∀ (M2 : Mem), Holds w0 M M2 (star (row1 bh (hasV has) 25) (star (row1 bi (inV inn) 26) (arenaA a α))) → (std PP w0).call Id.arena_Arena_Take #[.pointer (some ⟨a, 0, none⟩)] (fun v52 M53 => shT v52 fun l54 => shCons l54 fun u55 r56 => shI .i64 u55 fun n57 => shCons r56 fun u58 r59 => shB u58 fun b60 => shNil r59 (bs b60 (bs (decide (n57 < 0)) (R (.bool false) M53) (bs (decide (n57 > 7)) (R (.bool false) M53) ((0 ≤ n57 ∧ n57 < ((8 : Nat) : Int)) ∧ ob ((std PP w0).ld 4 (Addr.add ⟨bi, 0, none⟩ (n57.toNat * 1)) M53) fun v61 => shB v61 fun b62 => bs b62 (R (.bool false) M53) ((std PP w0).call Id.arena_Arena_Get #[.pointer (some ⟨a, 0, none⟩), .int .i64 n57, .int .i64 7] (fun v63 M64 => shI .i64 v63 fun n65 => bs ((n65 != 0)) (R (.bool false) M64) ((std PP w0).call Id.arena_Arena_Get #[.pointer (some ⟨a, 0, none⟩), .int .i64 n57, .int .i64 9] (fun v66 M67 => shI .i64 v66 fun n68 => bs ((n68 != (-1))) (R (.bool false) M67) (thicketlaw5_ArenaCells.J4 pts k s (some ⟨a, 0, none⟩) ⟨bh, 0, none⟩ ⟨bi, 0, none⟩ i n57 M67)) M64)) M53)))) (thicketlaw5_ArenaCells.J3 pts k s (some ⟨a, 0, none⟩) ⟨bh, 0, none⟩ ⟨bi, 0, none⟩ i M53))) M2 := by
            intro M2 hH2
            obtain ⟨F', hA, hFF, back⟩ := hH2.last3
            refine Take_ok hA fun M3 hA3 => ?_
            have hH3 := back M3 _ hA3
            cases hnx : α.next with
            | none =>
              have hni : α.nextI = -1 := by unfold AS.nextI; rw [hnx]
              rw [hni]
              simp only [go_sem, Option.isSome_none, bs_false]
              have ht := (AS.next_none hnx).1
              rw [ht] at hH3
              exact three M3 _ has inn hH3 ⟨hG.n, hG.live, hG.has⟩
            | some c =>
              have hni : α.nextI = (c : Int) := by unfold AS.nextI; rw [hnx]
              obtain ⟨hcn, hcl, hct⟩ := AS.next_some hA.inv hnx
              rw [hG.n] at hcn
              have hinc : inn c = false := by rw [← hG.live c hcn]; exact hcl
              have ri : rd w0 M3 ⟨bi, c, none⟩ = some (.bool (inn c)) := by rw [rd_own hH3.rot.own1]; exact inV_get hcn
              rw [hni]
              simp only [go_sem, Option.isSome_some, bs_true, bs_decide, bs_bne, add_eq, Nat.zero_add, Int.toNat_natCast, Nat.mul_one, ri, hinc, bs_false]
              rw [if_neg (by omega), if_neg (by omega)]
              refine ⟨⟨by omega, by omega⟩, ?_⟩
              have hlv : α.take.tick.liveI (c : Int) = true := by
                unfold AS.liveI
                show (decide (0 ≤ (c : Int)) && α.take.live (c : Int).toNat) = true
                rw [hct, Int.toNat_natCast, decide_eq_true (by omega)]
                show (true && if c = c then true else α.live c) = true
                rw [if_pos rfl]; rfl
              have hget : ∀ (β : AS) (f : Nat), f < 10 → β.live = α.take.live → β.get = α.take.get → β.getI (c : Int) (f : Int) = AS.fresh f := by
                intro β f hf e1 e2
                unfold AS.getI AS.hasI AS.liveI
                rw [e1, e2, hct]
                show (if (decide (0 ≤ (c : Int)) && (if (c : Int).toNat = c then true else α.live (c : Int).toNat) && decide ((0 : Int) ≤ (f : Int)) && decide ((f : Int) < 10)) = true then (if (c : Int).toNat = c then AS.fresh (f : Int).toNat else _) else _) = _
                rw [Int.toNat_natCast, Int.toNat_natCast, if_pos rfl, if_pos rfl, decide_eq_true (by omega), decide_eq_true (by omega), decide_eq_true (by omega)]; rfl
              obtain ⟨F3, hA3', _, back3⟩ := hH3.last3
              refine Get_ok hA3' fun M4 hA4 => ?_
              rw [show α.take.tick.getI (c : Int) 7 = 0 from hget _ 7 (by omega) rfl rfl]
              simp only [go_sem]
              rw [if_pos (by trivial)]
              refine Get_ok hA4 fun M5 hA5 => ?_
              rw [show α.take.tick.tick.getI (c : Int) 9 = -1 from hget _ 9 (by omega) rfl rfl]
              simp only [go_sem]
              rw [if_pos (by trivial), H.J4]
              unfold thicketlaw5_ArenaCells.J4.T
              have hH5 := (back3 M5 _ hA5).rot
              simp only [go_sem, add_eq, Nat.zero_add, Int.toNat_natCast, Nat.mul_one]
              refine ⟨⟨by omega, by omega⟩, ?_⟩
              refine st_one W.c4 hH5.own1 (by show c < 8; omega) rfl rfl ?_
              have hH6 := (hH5.upd1 (cs' := (inV inn).set c (.bool true)) (e' := 26)).rot
              refine ⟨⟨by omega, by omega⟩, ?_⟩
              rw [w64_in (n := (i : Int) + 1) (by omega)]
              refine st_one W.c2 hH6.own1 (by show c < 8; omega) rfl rfl ?_
              have hH7 := hH6.upd1 (cs' := (hasV has).set c (.int .i64 ((i : Int) + 1))) (e' := 25)
              rw [inV_set, hasV_set] at hH7
              rw [inV_set, hasV_set]
              have rh := rd_own (o := c) hH7.own1
              rw [hasV_get hcn] at rh
              simp only [if_true] at rh
              refine ⟨⟨by omega, by omega⟩, ?_⟩
              rw [rh]
              simp only [ob_v, shI_v]
              obtain ⟨F7, hA7, _, back7⟩ := hH7.last3
              refine Set_ok hA7 fun M8 hA8 => ?_
              simp only [go_sem]
              have hhas : α.take.tick.tick.tick.hasI (c : Int) 7 = true := by
                unfold AS.hasI
                have : α.take.tick.tick.tick.liveI (c : Int) = true := hlv
                rw [this]; rfl
              have hset : α.take.tick.tick.tick.setI (c : Int) 7 ((i : Int) + 1) = α.take.tick.tick.tick.put c 7 ((i : Int) + 1) := by
                unfold AS.setI; rw [if_pos hhas]; rfl
              rw [hset] at hA8
              refine three M8 _ _ _ (back7 M8 _ hA8) ⟨?_, fun x hx => ?_, fun x hx h => ?_⟩
              · show α.take.n = 8
                rw [hct]; exact hG.n
              · show α.take.live x = if x = c then true else inn x
                rw [hct]
                show (if x = c then true else α.live x) = _
                split
                · rfl
                · exact hG.live x hx
              · show (if x = c ∧ 7 = 7 then (i : Int) + 1 else α.take.get x 7) = if x = c then (i : Int) + 1 else has x
                by_cases e : x = c
                · rw [if_pos ⟨e, rfl⟩, if_pos e]
                · rw [if_neg (fun hh => e hh.1), if_neg e, hct]
                  show (if x = c then AS.fresh 7 else α.get x 7) = has x
                  rw [if_neg e]
                  simp only [if_neg e] at h
                  exact hG.has x hx h
          rw [H.J2]
          unfold thicketlaw5_ArenaCells.J2.T
          have hin : i < s.n := by omega
          obtain ⟨x1, ex1, hx1⟩ := hs.get (f := 1) hin (by omega)
          obtain ⟨x0, ex0, hx0⟩ := hs.get (f := 0) hin (by omega)
          have hfr := hH.fr
          refine rdfL W.c3 hs hfr i rfl hin ex1 ?_
          refine Within_ok hx1 (by omega) (by omega) (by omega) (by omega) fun c hc0 hc7 => ?_
          rw [shI_v]
          obtain ⟨c, rfl⟩ : ∃ k : Nat, c = (k : Int) := ⟨c.toNat, by omega⟩
          have hc8 : c < 8 := by omega
          refine ⟨⟨by omega, by omega⟩, ?_⟩
          have ri : rd w0 M' ⟨bi, c, none⟩ = some (.bool (inn c)) := by rw [rd_own hH.rot.own1]; exact inV_get hc8
          rw [add_eq, Nat.zero_add, Int.toNat_natCast, Nat.mul_one, ld_one W.c4, ri, ob_v, shB_v, bs_b]
          refine ⟨fun hin => ?_, fun _ => took M' hH⟩
          refine rdf0L W.c3 hs hfr i rfl (by omega) ex0 ?_
          refine ⟨rfl, by omega, ?_⟩
          rw [bs_beq]
          split
          · obtain ⟨F', hA, hFF, back⟩ := hH.last3
            have hlv : α.liveI (c : Int) = true := by
              unfold AS.liveI
              rw [decide_eq_true (by omega), Int.toNat_natCast, hG.live c hc8, hin]; rfl
            have hgv : α.giveI (c : Int) = α.unlive c := by unfold AS.giveI; rw [if_pos hlv]; rfl
            refine Give_ok hA fun M2 hA2 => ?_
            rw [hlv]
            rw [hgv] at hA2
            simp only [shB_v, Bool.not_true, bs_false]
            have hlv2 : (α.unlive c).tick.liveI (c : Int) = false := by
              unfold AS.liveI
              show (decide (0 ≤ (c : Int)) && if (c : Int).toNat = c then false else α.live (c : Int).toNat) = false
              rw [Int.toNat_natCast, if_pos rfl, Bool.and_false]
            have hgv2 : (α.unlive c).tick.giveI (c : Int) = (α.unlive c).tick := by unfold AS.giveI; rw [hlv2]; rfl
            refine Give_ok hA2 fun M3 hA3 => ?_
            rw [hlv2]
            rw [hgv2] at hA3
            have hH3 := (back M3 _ hA3).rot
            simp only [shB_v, bs_false]
            refine ⟨⟨by omega, by omega⟩, ?_⟩
            refine st_one W.c4 hH3.own1 (by show c < 8; omega) rfl rfl ?_
            have hH4 := (hH3.upd1 (cs' := (inV inn).set c (.bool false)) (e' := 26)).rot
            rw [inV_set] at hH4
            rw [inV_set]
            refine three _ _ has _ hH4 ⟨hG.n, fun x hx => ?_, fun x hx h => ?_⟩
            · show (if x = c then false else α.live x) = if x = c then false else inn x
              split
              · rfl
              · exact hG.live x hx
            · by_cases e : x = c
              · rw [if_pos e] at h; cases h
              · rw [if_neg e] at h; exact hG.has x hx h
          · exact took M' hH
        · exact hend _
      · exact hend _
  exact ⟨61, key 61 0 _ _ (fun _ => 0) (fun _ => false) (by omega) (by omega) H1 ⟨rfl, fun k hk => rfl, fun k hk h => by cases h⟩⟩

end
end Go.Proofs.Ytoeijcmpkfjbfaa.HL
