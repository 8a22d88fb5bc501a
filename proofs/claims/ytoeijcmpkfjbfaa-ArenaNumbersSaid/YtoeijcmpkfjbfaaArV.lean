/-
  ArV: the laws on arenas: any calls, and chapter 5's runs.
-/
import Derived.Test.YtoeijcmpkfjbfaaArU
import Derived.Test.YtoeijcmpkfjbfaaHlZ
set_option linter.unusedVariables false
set_option linter.unusedSimpArgs false
set_option maxRecDepth 100000
namespace Go.Proofs.Ytoeijcmpkfjbfaa.HL
open Go.RowKit (Below)
open Go.Proofs

section
variable {w0 : World} {M F M0 : Mem} {R : Value → Mem → Prop}

theorem bytes_ask : ∀ i, PP.info? 29 = some i → i.bytes = 32 := by
  intro i hi
  have : (PP.info? 29).map (·.bytes) = some 32 := by kernel_rfl
  rw [hi] at this
  exact Option.some.inj this

/-- One Ask more. -/
theorem ask_ok {s : SV} {l : List Int} {x0 x1 x2 x3 : Int} (hle : Mem.le M0 M) (hs : SlK w0 M0 M 4 s (l.map (Value.int .i64))) (hb : s.n ≤ 4398046511103) {K : SV → Mem → Prop}
    (h : ∀ M' s', Mem.le M0 M' → SlK w0 M0 M' 4 s' ((l ++ [x0, x1, x2, x3]).map (Value.int .i64)) → s'.n = s.n + 1 → K s' M') :
    (std PP w0).bsl 22 1 [(0, .agg #[.int .i64 x0, .int .i64 x1, .int .i64 x2, .int .i64 x3])] (fun v M1 => shS v fun s1 => (std PP w0).app #[22, 22] 22 [SV.v s, SV.v s1] (fun v2 M2 => shS v2 fun s2 => K s2 M2) M1) M := by
  refine bsl_e (cells := #[.int .i64 x0, .int .i64 x1, .int .i64 x2, .int .i64 x3]) Try.underlying22 W.e29 (by decide) (by kernel_rfl) fun b hb2 hw2 => ?_
  rw [shS_v]
  have l3 : Mem.le M (M.set b (.row (#[Value.int .i64 x0, .int .i64 x1, .int .i64 x2, .int .i64 x3] : Array Value).toList 29)) := Mem.le_set _ hb2
  have h3 : SlK w0 M (M.set b (.row (#[Value.int .i64 x0, .int .i64 x1, .int .i64 x2, .int .i64 x3] : Array Value).toList 29)) 4 ⟨some ⟨b, 0, none⟩, 1, 1⟩ ([x0, x1, x2, x3].map (Value.int .i64)) := SlK.new (n := 1) hb2 (Own.new hw2) rfl
  refine app_slkB (k := 4) Try.underlying22 W.e29 (Mem.le_trans hle l3) (hs.le l3) (news := [x0, x1, x2, x3].map (Value.int .i64)) rfl h3.cells (fun e => (h3.none e).1) (ints_one _ _) (by decide) (fun i hi => ?_) fun M4 s4 l4 h4 hn4 => ?_
  · rw [bytes_ask i hi]
    show (s.n + 1) * 32 ≤ _
    omega
  rw [shS_sv]
  rw [← List.map_append] at h4
  exact h M4 s4 l4 h4 (by rw [hn4])

theorem SlK.rdFB {k : Nat} (hk : 0 < k) {s : SV} {l : List Int} (h : SlK w0 M0 M k s (l.map (Value.int .i64))) (hw : ∀ n ∈ l, (Lit.int .i64 n).wf = true) (hm : s.n ≤ 9223372036854775807) : RdF w0 M k s l := by
  rcases h with ⟨rfl, hl⟩ | ⟨b, rest, e, ha, h1, h2, h3, ho⟩
  · have : l = [] := by simpa using hl
    subst this
    exact ⟨by simp, Nat.le_refl _, by simp, fun j x hx => by simp at hx, hw⟩
  · have hl := h1
    rw [List.length_map] at hl
    refine ⟨hl, ?_, hm, fun j x hx => ⟨_, ha, fun M2 hM => ?_⟩, hw⟩
    · exact Nat.le_of_mul_le_mul_right (show s.n * k ≤ s.c * k by omega) hk
    · rw [add_eq, Nat.zero_add, rd_own (ho.le hM), List.getElem?_append_left (by rw [List.length_map]; exact (List.getElem?_eq_some_iff.1 hx).1), List.getElem?_map, hx]; rfl

theorem near5_ok {s : SV} {l : List Int} (hs : RdF w0 M 4 s l) (hz : s.n * PP.bytesOf 29 ≤ reachBytes) (h : ∀ M' s' l', Mem.le M M' → RdF w0 M' 4 s' l' → R s'.v M') : C PP w0 Id.thicketlaw5_near #[SV.v s] R M := by
  apply thicketlaw5_near.go
  intro pts H
  unfold thicketlaw5_near.T
  have hb32 : PP.bytesOf 29 = 32 := by kernel_rfl
  rw [hb32] at hz
  unfold reachBytes at hz
  have key : ∀ (k i : Nat) (M' : Mem) (s2 : SV) (l2 : List Int), s.n < i + k → i ≤ s.n → Mem.le M M' → SlK w0 M M' 4 s2 (l2.map (Value.int .i64)) → s2.n = i → (∀ x ∈ l2, (Lit.int .i64 x).wf = true) → thicketlaw5_near.L1 pts k s s2 (i : Int) M' := by
    intro k
    induction k with
    | zero => intro i M' s2 l2 g1 g2; omega
    | succ k ih =>
      intro i M' s2 l2 g1 g2 hle h2 hn2 hw
      rw [H.L1]
      unfold thicketlaw5_near.L1.T
      rw [bs_decide]
      split
      · have hi : i < s.n := by omega
        obtain ⟨x0, ex0, b0⟩ := hs.get (f := 0) hi (by omega)
        obtain ⟨x1, ex1, b1⟩ := hs.get (f := 1) hi (by omega)
        obtain ⟨x2, ex2, b2⟩ := hs.get (f := 2) hi (by omega)
        obtain ⟨x3, ex3, b3⟩ := hs.get (f := 3) hi (by omega)
        obtain ⟨ad, ead, hl, hl0⟩ := hs.ads (by omega) hi
        have q0 := hl0 3 x0 M' W.c3 ex0 hle
        have q1 := hl 3 1 x1 M' W.c3 ex1 hle
        have q2 := hl 3 2 x2 M' W.c3 ex2 hle
        have q3 := hl 2 3 x3 M' W.c2 ex3 hle
        rw [ead]
        simp only [nc_v]
        rw [q0, q1, q2, q3]
        simp only [ob_v, shI_v]
        refine ⟨⟨by omega, by omega⟩, ⟨by omega, by omega⟩, ⟨by omega, by omega⟩, ⟨by omega, by omega⟩, ?_⟩
        refine Within_ok b1 (by omega) (by omega) (by omega) (by omega) fun y1 y10 y11 => ?_
        rw [shI_v, q0, q2, q3]
        refine ⟨rfl, rfl, rfl, ?_⟩
        refine Within_ok b2 (by omega) (by omega) (by omega) (by omega) fun y2 y20 y21 => ?_
        rw [shI_v, q0, q3]
        simp only [go_sem]
        refine ⟨trivial, trivial, ?_⟩
        refine ask_ok hle h2 (by omega) fun M4 s4 l4 h4 hn4 => ?_
        rw [w64_in (by omega)]
        refine ih (i + 1) M4 s4 _ (by omega) (by omega) l4 h4 (by omega) (fun z hz => ?_)
        rcases List.mem_append.1 hz with hz | hz
        · exact hw z hz
        · refine wf64 ?_
          simp only [List.mem_cons, List.not_mem_nil, or_false] at hz
          rcases hz with rfl | rfl | rfl | rfl
          · exact b0
          · unfold In64; omega
          · unfold In64; omega
          · exact b3
      · exact h M' s2 l2 hle (h2.rdFB (by decide) hw (by omega))
  exact ⟨s.n + 1, key (s.n + 1) 0 M ⟨none, 0, 0⟩ [] (by omega) (by omega) (Mem.le_refl _) SlK.nil rfl (by simp)⟩

theorem ar_plays (hR : ∀ M, R (.bool true) M) {cells : Int} (hc : In64 cells) {s : SV} {l : List Int} (hs : RdF w0 M 4 s l) (hz : s.n * PP.bytesOf 29 ≤ reachBytes) : C PP w0 Id.thicketlaw5_ArenaPlays #[.int .i64 cells, SV.v s] R M := by
  apply thicketlaw5_ArenaPlays.go
  unfold thicketlaw5_ArenaPlays.T
  refine Within_ok hc (by omega) (by omega) (by omega) (by omega) fun n hn1 hn2 => ?_
  rw [shI_v]
  refine near5_ok hs hz fun M2 s2 l2 h2 hs2 => ?_
  rw [shS_sv]
  refine ar_play_ok hs2 fun M3 h3 => ?_
  rw [shB_v, bs_true]
  refine ar_play_ok (hs.le (Mem.le_trans h2 h3)) fun M4 h4 => ?_
  rw [shB_v, bs_true]
  refine known5_ok fun M5 _ => ?_
  rw [shB_v]
  exact hR _

theorem ar_numbers (hR : ∀ M, R (.bool true) M) : C PP w0 Id.thicketlaw5_ArenaNumbers #[] R M := by
  apply thicketlaw5_ArenaNumbers.go
  intro pts H
  unfold thicketlaw5_ArenaNumbers.T
  have two : ∀ (k : Nat) (n : Int) (M' : Mem) (s : SV) (l : List Int), 9 < n + k → -1 ≤ n → n ≤ 9 → RdF w0 M' 4 s l → thicketlaw5_ArenaNumbers.L2 pts k s n M' := by
    intro k
    induction k with
    | zero => intro n M' s l g1 g2 g3; omega
    | succ k ih =>
      intro n M' s l g1 g2 g3 hs
      rw [H.L2]
      unfold thicketlaw5_ArenaNumbers.L2.T
      rw [bs_decide]
      split
      · refine ar_play_ok hs fun M2 l2 => ?_
        rw [shB_v, bs_not, bs_true, w64_in (by omega)]
        exact ih (n + 1) M2 s l (by omega) (by omega) (by omega) (hs.le l2)
      · refine New_ok fun M1 a h1 => ?_
        simp only [go_sem, Option.isNone_some, Bool.not_false, bs_true]
        refine Cells_ok h1 ?_
        simp only [go_sem]
        rw [show ((AS.new (if (if (65536 : Int) < 1048576 then (65536 : Int) else 1048576) > 0 then (if (65536 : Int) < 1048576 then (65536 : Int) else 1048576) else 0).toNat).n : Int) = 65536 from by decide]
        simp only [beq_self_eq_true, bs_true]
        refine known5_ok fun M5 _ => ?_
        rw [shB_v]
        exact hR _
  have one : ∀ (k i : Nat) (M' : Mem) (s : SV) (l : List Int), 110 < i + k → i ≤ 110 → Mem.le M M' → SlK w0 M M' 4 s (l.map (Value.int .i64)) → s.n = i → (∀ x ∈ l, (Lit.int .i64 x).wf = true) → thicketlaw5_ArenaNumbers.L1 pts k s (i : Int) M' := by
    intro k
    induction k with
    | zero => intro i M' s l g1 g2; omega
    | succ k ih =>
      intro i M' s l g1 g2 hle hs hn hw
      rw [H.L1]
      unfold thicketlaw5_ArenaNumbers.L1.T
      rw [bs_decide]
      split
      · refine lit_ok [0, 3, 5, 0, 7, 2, 1, 4, 6, 0, 2, 3] (by decide) (by kernel_rfl) rfl (by decide) fun M2 s2 l2 r2 => ?_
        have hm : Int.tmod (i : Int) 12 = ((i % 12 : Nat) : Int) := by rw [Int.tmod_eq_emod_of_nonneg (by omega)]; omega
        have h12 : i % 12 < 12 := Nat.mod_lt _ (by decide)
        obtain ⟨x, hx⟩ : ∃ x, ([0, 3, 5, 0, 7, 2, 1, 4, 6, 0, 2, 3] : List Int)[i % 12]? = some x := ⟨_, List.getElem?_eq_getElem h12⟩
        have hx64 := int_wf (r2.wf x (List.mem_of_getElem? hx))
        refine ⟨rfl, by omega, ?_⟩
        rw [hm]
        refine rdx W.c3 r2 (Mem.le_refl _) (i % 12) rfl hx ?_
        rw [w64_in (n := (i : Int) * 5) (by omega), w64_in (n := (i : Int) - 4) (by omega)]
        have y1 : Int.tmod ((i : Int) * 5) 11 = ((i * 5 % 11 : Nat) : Int) := by rw [Int.tmod_eq_emod_of_nonneg (by omega)]; omega
        rw [y1, w64_in (n := ((i * 5 % 11 : Nat) : Int) - 1) (by omega)]
        refine ⟨rfl, by omega, rfl, by omega, ?_⟩
        simp only [go_sem]
        refine ask_ok (Mem.le_trans hle l2) (hs.le l2) (by omega) fun M4 s4 l4 h4 hn4 => ?_
        rw [w64_in (by omega)]
        refine ih (i + 1) M4 s4 _ (by omega) (by omega) l4 h4 (by omega) (fun z hz => ?_)
        rcases List.mem_append.1 hz with hz | hz
        · exact hw z hz
        · refine wf64 ?_
          simp only [List.mem_cons, List.not_mem_nil, or_false] at hz
          rcases hz with rfl | rfl | rfl | rfl
          · exact hx64
          · unfold In64; omega
          · unfold In64; omega
          · unfold In64; omega
      · exact ⟨11, two 11 (-1) M' s l (by omega) (by omega) (by omega) (hs.rdFB (by decide) hw (by omega))⟩
  exact ⟨111, one 111 0 M ⟨none, 0, 0⟩ [] (by omega) (by omega) (Mem.le_refl _) SlK.nil rfl (by simp)⟩
end
end Go.Proofs.Ytoeijcmpkfjbfaa.HL
