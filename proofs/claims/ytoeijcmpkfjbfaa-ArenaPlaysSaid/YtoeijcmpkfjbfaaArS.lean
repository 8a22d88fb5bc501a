/-
  ArS: the document's arena, whole: a new one, a cell that is taken, one that is given back, how many there are.
-/
import Derived.Test.YtoeijcmpkfjbfaaArR
set_option linter.unusedVariables false
set_option linter.unusedSimpArgs false
set_option maxRecDepth 100000
namespace Go.Proofs.Ytoeijcmpkfjbfaa.HL
open Go.RowKit (Below)
open Go.Proofs

section
variable {w0 : World} {M F : Mem} {R : Value → Mem → Prop}

theorem Holds.rot5t {P Q S T U V : Asn} (h : Holds w0 F M (star P (star Q (star S (star T (star U V)))))) : Holds w0 F M (star U (star P (star Q (star S (star T V))))) := by
  have := (Holds.assoc.2 h).rot4
  rwa [star_assoc] at this

/-- What is laid down beside all else. -/
theorem bsl_holds {t e : TypeId} {z : Value} {n : Nat} {parts : List (Nat × Value)} {cells : Array Value} {P : Asn} (h : Holds w0 F M P) (ht : PP.underlying t = some (.slice e)) (he : ElemOk PP e z 1)
    (h24 : n ≤ 16777216) (hc : Instr.fill (fun k => some (k * 1, 1)) ((Array.range (n * 1)).map (z.cells[· % z.cells.size]!)) parts = some cells) (hn : cells.toList.length = n) {K : Value → Mem → Prop}
    (hK : ∀ M' s', Mem.le M M' → Holds w0 F M' (star (SlA s' cells.toList) P) → K s'.v M') : (std PP w0).bsl t n parts K M :=
  bsl_sl (Mem.le_refl _) ht he h24 hc hn fun M' s' l1 l2 hs => hK M' s' l1 (h.newSl l1 hs)
/-- What is put behind one's own. -/
theorem app_holds {t ty e : TypeId} {z : Value} (ht : PP.underlying t = some (.slice e)) (he : ElemOk PP e z 1) {s x : SV} {l news : List Value} {Q : Asn} (h : Holds w0 F M (star (SlA s l) (star (SlA x news) Q))) (hone : ∀ v ∈ news, onecell v = true) (hb : l.length + news.length ≤ 137438953472)
    {K : Value → Mem → Prop} (hK : ∀ M' s', Holds w0 F M' (star (SlA s' (l ++ news)) (star (SlA x news) Q)) → K s'.v M') : (std PP w0).app #[t, t] ty [s.v, x.v] K M := by
  obtain ⟨F', h1, h2, h3⟩ := h.sl
  obtain ⟨hc, hn⟩ := sl_cells h.rot
  obtain ⟨F2, g1, _⟩ := h.rot.sl
  exact app_sl ht he h2 h1 (news := news) hn hc (fun e => (g1.none e).1) hone hb fun M' s' l1 l2 => hK M' s' (h3 M' s' _ l2 l1)

/-- Numbers of a new cell. -/
theorem rFresh_ok (h : ∀ M' b, Mem.le M M' → Holds w0 M M' (row1 b (tenV AS.fresh) 2) → R (.slice (some ⟨b, 0, none⟩) 10 10) M') : C PP w0 Id.thicketref5_fresh #[] R M := by
  apply thicketref5_fresh.go
  intro pts H
  unfold thicketref5_fresh.T
  obtain ⟨i, hi, hz, h1, h2, h3, h4⟩ := W.e2
  refine mks_ok (n := 10) (c := 10) Try.underlying38 hi hz (by rw [h1]; exact h2) (Nat.le_refl _) (Nat.le_trans (Nat.mul_le_mul_right 10 h4) (by decide)) (by omega) fun b hb hw => ?_
  rw [shS_v]
  have hz0 : zeros (.int .i64 0) 10 = tenV (fun f => if f < 0 then AS.fresh f else 0) := by kernel_rfl
  have f0 : Fit w0 M (M.set b (.row (zeros (.int .i64 0) 10) 2)) [(b, tenV (fun f => if f < 0 then AS.fresh f else 0), 2)] := by
    rw [← hz0]; exact (Fit.nil (Mem.le_refl M)).new hb hw
  have step : ∀ (k i : Nat) (M' : Mem), 10 < i + k → i ≤ 10 → Fit w0 M M' [(b, tenV (fun f => if f < i then AS.fresh f else 0), 2)] → thicketref5_fresh.L1 pts k ⟨some ⟨b, 0, none⟩, 10, 10⟩ (i : Int) M' := by
    intro k
    induction k with
    | zero => intro i M' g1 g2; omega
    | succ k ih =>
      intro i M' g1 g2 hf
      rw [H.L1]
      unfold thicketref5_fresh.L1.T
      rw [bs_decide]
      split
      · have hi : i < 10 := by omega
        have ew : w64 ((i : Int) + 1) = ((i + 1 : Nat) : Int) := by rw [w64_in (by omega)]; omega
        rw [ew]
        have hput : AS.fresh i = -1 → (nc (some (⟨b, 0, none⟩ : Addr)) fun a5 => (0 ≤ (i : Int) ∧ (i : Int) < ((10 : Nat) : Int)) ∧ (std PP w0).st 2 (a5.add ((i : Int).toNat * 1)) (.int .i64 (-1)) (fun M6 => thicketref5_fresh.L1 pts k ⟨some ⟨b, 0, none⟩, 10, 10⟩ ((i + 1 : Nat) : Int) M6) M') := by
          intro e
          rw [nc_v]
          refine ⟨⟨by omega, by omega⟩, ?_⟩
          rw [Int.toNat_natCast, add_eq, Nat.zero_add, Nat.mul_one]
          refine st_one W.c2 (hf.own List.mem_cons_self) (by simp [tenV]; omega) rfl rfl ?_
          refine ih (i + 1) _ (by omega) (by omega) ?_
          have e2 : (tenV (fun f => if f < i then AS.fresh f else 0)).set i (.int .i64 (-1)) = tenV (fun f => if f < i + 1 then AS.fresh f else 0) := by
            apply List.ext_getElem?
            intro j
            rw [List.getElem?_set]
            simp only [tenV, List.length_map, List.length_range, List.getElem?_map]
            by_cases hj : j < 10
            · rw [List.getElem?_range hj]
              by_cases e3 : i = j
              · subst e3; simp [hj, e]
              · rw [if_neg e3]
                by_cases e4 : j < i
                · simp [e4, Nat.lt_succ_of_lt e4]
                · have : ¬ j < i + 1 := by omega
                  simp [e4, this]
            · rw [if_neg (by omega), List.getElem?_eq_none (by simp; omega)]; rfl
          rw [← e2]
          exact hf.upd
        have hno : AS.fresh i = 0 → thicketref5_fresh.L1 pts k ⟨some ⟨b, 0, none⟩, 10, 10⟩ ((i + 1 : Nat) : Int) M' := by
          intro e
          refine ih (i + 1) M' (by omega) (by omega) ?_
          have e2 : tenV (fun f => if f < i then AS.fresh f else 0) = tenV (fun f => if f < i + 1 then AS.fresh f else 0) := by
            unfold tenV
            refine List.map_congr_left fun j hj => ?_
            by_cases e3 : i = j
            · subst e3; simp [e]
            · by_cases e4 : j < i
              · simp [e4, Nat.lt_succ_of_lt e4]
              · have : ¬ j < i + 1 := by omega
                simp [e4, this]
          rw [← e2]
          exact hf
        simp only [bs_beq]
        split
        · exact hput (by unfold AS.fresh; rw [if_neg (by omega)])
        split
        · exact hput (by unfold AS.fresh; rw [if_neg (by omega)])
        split
        · exact hput (by unfold AS.fresh; rw [if_neg (by omega)])
        split
        · exact hput (by unfold AS.fresh; rw [if_neg (by omega)])
        split
        · exact hput (by unfold AS.fresh; rw [if_neg (by omega)])
        split
        · exact hput (by unfold AS.fresh; rw [if_neg (by omega)])
        exact hno (by unfold AS.fresh; rw [if_pos (by omega)])
      · have : i = 10 := by omega
        subst this
        have e2 : tenV (fun f => if f < 10 then AS.fresh f else 0) = tenV AS.fresh := by
          unfold tenV
          refine List.map_congr_left fun j hj => ?_
          show Value.int .i64 (if j < 10 then AS.fresh j else 0) = _
          rw [if_pos (List.mem_range.1 hj)]
        rw [e2] at hf
        exact h M' b hf.fr ⟨_, rfl, hf⟩
  exact ⟨11, step 11 0 _ (by omega) (by omega) f0⟩

theorem rNew_ok {cells : Int} (h : ∀ M' m, Mem.le M M' → Holds w0 M M' (refA m (AS.new (if (if 65536 < cells then 65536 else cells) > 0 then (if 65536 < cells then 65536 else cells) else 0).toNat)) → R (.pointer (some ⟨m, 0, none⟩)) M') : C PP w0 Id.thicketref5_New #[.int .i64 cells] R M := by
  apply thicketref5_New.go
  unfold thicketref5_New.T
  obtain ⟨n, hn, hn2, hle⟩ : ∃ n : Nat, (if (if 65536 < cells then 65536 else cells) > 0 then (if 65536 < cells then 65536 else cells) else 0) = (n : Int) ∧ (if 0 > (if 65536 < cells then 65536 else cells) then 0 else (if 65536 < cells then 65536 else cells)) = (n : Int) ∧ n ≤ 65536 := by
    refine ⟨(if (if 65536 < cells then 65536 else cells) > 0 then (if 65536 < cells then 65536 else cells) else 0).toNat, ?_, ?_, ?_⟩
    · split
      · omega
      · omega
    · split <;> split <;> split <;> omega
    · split
      · split <;> omega
      · omega
  rw [hn] at h
  rw [hn2]
  simp only [Int.toNat_natCast] at h
  simp only [go_sem]
  intro b hb hw
  have f1 := (Fit.nil (w0 := w0) (Mem.le_refl M)).new hb hw (cs := refR n ⟨none, 0, 0⟩ ⟨none, 0, 0⟩ ⟨none, 0, 0⟩ 0) (e := 85)
  refine h _ b f1.fr ⟨[(b, refR n ⟨none, 0, 0⟩ ⟨none, 0, 0⟩ ⟨none, 0, 0⟩ 0, 85)], ⟨AS.new_inv hle, ⟨none, 0, 0⟩, ⟨none, 0, 0⟩, ⟨none, 0, 0⟩, fun _ => 0, ?_⟩, f1⟩
  exact ⟨[(b, _, _)], [], rfl, rfl, [], [], rfl, SlA.nil, [], [], rfl, SlA.nil, [], [], rfl, SlA.nil, rfl⟩

theorem rLen_ok {m : Nat} {α : AS} (hA : Holds w0 F M (refA m α)) (hR : R (.int .i64 (α.len : Int)) M) : C PP w0 Id.thicketref5_Arena_Len #[.pointer (some ⟨m, 0, none⟩)] R M := by
  obtain ⟨hi, sF, sI, sB, bc, h⟩ := hA.ref
  apply thicketref5_Arena_Len.go
  intro pts H
  unfold thicketref5_Arena_Len.T
  obtain ⟨r0, r1, r2, r3, r4⟩ := ref_rd h
  obtain ⟨hc, hn⟩ := sl_cells (Holds.rot3 h)
  have hn' := hn
  simp only [iV, List.length_map, List.length_range] at hn'
  have hb1 := hi.never
  have hb2 := hi.n
  have step : ∀ (k i : Nat), α.never < i + k → i ≤ α.never → thicketref5_Arena_Len.L1 pts k (some ⟨m, 0, none⟩) (((List.range i).countP α.live : Nat) : Int) (i : Int) M := by
    intro k
    induction k with
    | zero => intro i g1 g2; omega
    | succ k ih =>
      intro i g1 g2
      rw [H.L1]
      unfold thicketref5_Arena_Len.L1.T
      simp only [go_sem, add_eq, Nat.zero_add, r2, bs_decide]
      split
      · rename_i hlt
        have hlt' : i < α.never := by omega
        refine rdv hc hn i rfl (iV_get (live := α.live) hlt') ?_
        have hcl : (List.range i).countP α.live ≤ i := by have := List.countP_le_length (p := α.live) (l := List.range i); simpa using this
        have e : (List.range (i + 1)).countP α.live = (List.range i).countP α.live + if α.live i = true then 1 else 0 := by
          rw [List.range_succ, List.countP_append]; simp [List.countP_cons]
        rw [shB_v, bs_b]
        rw [w64_in (n := (i : Int) + 1) (by omega), w64_in (by omega)]
        have hx := ih (i + 1) (by omega) (by omega)
        rw [e] at hx
        refine ⟨fun hl => ?_, fun hl => ?_⟩
        · rw [hl, if_pos rfl] at hx
          exact hx
        · rw [hl, if_neg (by decide)] at hx
          exact hx
      · rename_i hge
        have : i = α.never := by omega
        subst this
        exact hR
  exact ⟨α.never + 1, step (α.never + 1) 0 (by omega) (by omega)⟩

theorem SlA.pop {s : SV} {l : List Value} {x : Value} {r : Rws} (h : SlA s (l ++ [x]) r) : SlA ⟨s.a, s.n - 1, s.c⟩ l r := by
  rcases h with ⟨_, h0, _⟩ | ⟨b, rest, e, rfl, rfl⟩
  · simp at h0
  · refine .inr ⟨b, x :: rest, e, ?_, by simp⟩
    simp; omega
theorem Holds.pop {s : SV} {l : List Value} {x : Value} {Q : Asn} (h : Holds w0 F M (star (SlA s (l ++ [x])) Q)) : Holds w0 F M (star (SlA ⟨s.a, s.n - 1, s.c⟩ l) Q) :=
  h.imp fun r ⟨r1, r2, e, h1, h2⟩ => ⟨r1, r2, e, h1.pop, h2⟩
theorem Holds.sln {s : SV} {l : List Value} {Q : Asn} (h : Holds w0 F M (star (SlA s l) Q)) : s.n = l.length ∧ s.n ≤ s.c := by
  obtain ⟨F', h1, _⟩ := h.sl
  exact ⟨h1.len, h1.cap⟩

theorem cells_re {b c never : Nat} {bc : Nat → Nat} {g : Nat → Int} {get get' : Nat → Nat → Int} {Q : Asn} (hc : c < never) (h1 : ∀ x, x ≠ c → tenV (get x) = tenV (get' x)) (h2 : tenV g = tenV (get' c))
    (h : Holds w0 F M (star (row1 b (tenV g) 2) (star Q (cellsA never bc get)))) : Holds w0 F M (star Q (cellsA never (fun x => if x = c then b else bc x) get')) := by
  obtain ⟨r, ⟨r1, r2, rfl, h3, r3, r4, rfl, h4, h5⟩, hf⟩ := h
  subst h3; subst h5
  refine ⟨r3 ++ ((List.range never).map fun c => (bc c, tenV (get c), 2)).set c (b, tenV g, 2), ⟨r3, _, rfl, h4, ?_⟩, ?_⟩
  · show _ = _
    apply List.ext_getElem?
    intro j
    rw [List.getElem?_set]
    simp only [List.length_map, List.length_range, List.getElem?_map]
    by_cases hj : j < never
    · rw [List.getElem?_range hj]
      by_cases e : c = j
      · subst e; simp [hj, h2]
      · rw [if_neg e]; simp [h1 j (Ne.symm e), Ne.symm e]
    · rw [if_neg (by omega), List.getElem?_eq_none (by simp; omega)]; rfl
  · have hs : ∀ (l : Rws), (r3 ++ l.set c (b, tenV g, 2)) = (r3 ++ l).set (r3.length + c) (b, tenV g, 2) := fun l => by
      rw [List.set_append_right _ _ (by omega)]; simp
    rw [hs]
    refine Fit.swapAt (by simp; omega) ?_
    exact hf
theorem cells_new {b never : Nat} {bc : Nat → Nat} {g : Nat → Int} {get get' : Nat → Nat → Int} {Q : Asn} (h1 : ∀ x, x ≠ never → tenV (get x) = tenV (get' x)) (h2 : tenV g = tenV (get' never))
    (h : Holds w0 F M (star (row1 b (tenV g) 2) (star Q (cellsA never bc get)))) : Holds w0 F M (star Q (cellsA (never + 1) (fun x => if x = never then b else bc x) get')) := by
  obtain ⟨r, ⟨r1, r2, rfl, h3, r3, r4, rfl, h4, h5⟩, hf⟩ := h
  subst h3; subst h5
  refine ⟨r3 ++ (((List.range never).map fun c => (bc c, tenV (get c), 2)) ++ [(b, tenV g, 2)]), ⟨r3, _, rfl, h4, ?_⟩, ?_⟩
  · show _ = _
    rw [List.range_succ, List.map_append]
    congr 1
    · refine List.map_congr_left fun x hx => ?_
      have : x ≠ never := by have := List.mem_range.1 hx; omega
      simp [this, h1 x this]
    · simp [h2]
  · refine hf.perm ?_
    exact (List.perm_append_comm (l₁ := [_])).trans (by rw [List.append_assoc])
end
end Go.Proofs.Ytoeijcmpkfjbfaa.HL
