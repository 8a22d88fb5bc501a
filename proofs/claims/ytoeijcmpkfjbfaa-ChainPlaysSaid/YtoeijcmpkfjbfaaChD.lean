/-
  ChD: the laws on rings, for any calls and for chapter 6's runs.
-/
import Derived.Test.YtoeijcmpkfjbfaaChC
set_option linter.unusedVariables false
set_option linter.unusedSimpArgs false
set_option maxRecDepth 100000
namespace Go.Proofs.Ytoeijcmpkfjbfaa.HL
open Go.RowKit (Below)
open Go.Proofs

section
variable {w0 : World} {M F : Mem} {R : Value → Mem → Prop}

theorem ch_plays (hR : ∀ M, R (.bool true) M) {n : Int} (hn : In64 n) {s : SV} {l : List Int} (hs : RdF w0 M 3 s l) : C PP w0 Id.thicketlaw6_ChainPlays #[.int .i64 n, SV.v s] R M := by
  apply thicketlaw6_ChainPlays.go
  unfold thicketlaw6_ChainPlays.T
  refine Within_ok hn (by omega) (by omega) (by omega) (by omega) fun k h1 h2 => ?_
  obtain ⟨k, rfl⟩ : ∃ k' : Nat, k = (k' : Int) := ⟨k.toNat, by omega⟩
  rw [shI_v]
  refine ch_play (fun M2 _ => ?_) (by omega) (by omega) hs
  rw [shB_v, bs_true]
  refine known6_ok fun M' _ => ?_
  rw [shB_v]
  exact hR _

theorem ch_numbers (hR : ∀ M, R (.bool true) M) : C PP w0 Id.thicketlaw6_ChainNumbers #[] R M := by
  apply thicketlaw6_ChainNumbers.go
  intro pts H
  unfold thicketlaw6_ChainNumbers.T
  have two : ∀ (f i : Nat) (M' : Mem) (s : SV) (l : List Int), 9 < i + f → 1 ≤ i → i ≤ 9 → RdF w0 M' 3 s l → thicketlaw6_ChainNumbers.L2 pts f s (i : Int) M' := by
    intro f
    induction f with
    | zero => intro i M' s l g1 g2; omega
    | succ f ih =>
      intro i M' s l g1 g2 g3 hs
      rw [H.L2]
      unfold thicketlaw6_ChainNumbers.L2.T
      rw [bs_decide]
      split
      · refine ch_play (fun M2 l2 => ?_) (by omega) (by omega) hs
        rw [shB_v, bs_not, bs_true, w64_in (by omega)]
        exact ih (i + 1) M2 s l (by omega) (by omega) (by omega) (hs.le l2)
      · refine known6_ok fun M' _ => ?_
        rw [shB_v]
        exact hR _
  have one : ∀ (f i : Nat) (M' : Mem) (s : SV) (l : List Int), 60 < i + f → i ≤ 60 → Mem.le M M' → SlK w0 M M' 3 s (l.map (Value.int .i64)) → s.n = i → (∀ x ∈ l, (Lit.int .i64 x).wf = true) → thicketlaw6_ChainNumbers.L1 pts f s (i : Int) M' := by
    intro f
    induction f with
    | zero => intro i M' s l g1 g2; omega
    | succ f ih =>
      intro i M' s l g1 g2 hle hs hn hw
      rw [H.L1]
      unfold thicketlaw6_ChainNumbers.L1.T
      rw [bs_decide]
      split
      · refine lit_ok [0, 2, 1, 3, 2, 4, 3] (by decide) (by kernel_rfl) rfl (by decide) fun M2 s2 l2 r2 => ?_
        have hm7 : Int.tmod (i : Int) 7 = ((i % 7 : Nat) : Int) := by rw [Int.tmod_eq_emod_of_nonneg (by omega)]; omega
        have h7 : i % 7 < 7 := Nat.mod_lt _ (by decide)
        obtain ⟨x, hx⟩ : ∃ x, ([0, 2, 1, 3, 2, 4, 3] : List Int)[i % 7]? = some x := ⟨_, List.getElem?_eq_getElem h7⟩
        have hx64 := int_wf (r2.wf x (List.mem_of_getElem? hx))
        refine ⟨rfl, by omega, ?_⟩
        rw [hm7]
        refine rdx W.c3 r2 (Mem.le_refl _) (i % 7) rfl hx ?_
        rw [w64_in (n := (i : Int) * 3) (by omega), w64_in (n := (i : Int) * 5) (by omega)]
        have y1 : Int.tmod ((i : Int) * 3) 8 = ((i * 3 % 8 : Nat) : Int) := by rw [Int.tmod_eq_emod_of_nonneg (by omega)]; omega
        have y2 : Int.tmod ((i : Int) * 5) 7 = ((i * 5 % 7 : Nat) : Int) := by rw [Int.tmod_eq_emod_of_nonneg (by omega)]; omega
        refine ⟨rfl, by omega, rfl, by omega, ?_⟩
        rw [y1, y2]
        simp only [W.b57_1, ob_v, shA_v, shCons_v, shI_v, shNil_v]
        refine bsl_e (cells := #[.int .i64 x, .int .i64 ((i * 3 % 8 : Nat) : Int), .int .i64 ((i * 5 % 7 : Nat) : Int)]) Try.underlying55 W.e57 (by decide) (by kernel_rfl) fun b hb hw2 => ?_
        rw [shS_v]
        have l3 : Mem.le M2 (M2.set b (.row (#[Value.int .i64 x, .int .i64 ((i * 3 % 8 : Nat) : Int), .int .i64 ((i * 5 % 7 : Nat) : Int)] : Array Value).toList 57)) := Mem.le_set _ hb
        have h3 : SlK w0 M2 (M2.set b (.row (#[Value.int .i64 x, .int .i64 ((i * 3 % 8 : Nat) : Int), .int .i64 ((i * 5 % 7 : Nat) : Int)] : Array Value).toList 57)) 3 ⟨some ⟨b, 0, none⟩, 1, 1⟩ ([x, ((i * 3 % 8 : Nat) : Int), ((i * 5 % 7 : Nat) : Int)].map (Value.int .i64)) := SlK.new (n := 1) hb (Own.new hw2) rfl
        refine app_slk (k := 3) Try.underlying55 W.e57 (Mem.le_trans hle (Mem.le_trans l2 l3)) ((hs.le l2).le l3) (news := [x, ((i * 3 % 8 : Nat) : Int), ((i * 5 % 7 : Nat) : Int)].map (Value.int .i64)) rfl h3.cells (fun e => (h3.none e).1) (ints_one _ _) (by decide) (by show s.n + 1 ≤ _; omega) fun M4 s4 l4 h4 hn4 => ?_
        rw [shS_sv, w64_in (by omega)]
        rw [← List.map_append] at h4
        refine ih (i + 1) M4 s4 _ (by omega) (by omega) l4 h4 (by rw [hn4, hn]) (fun z hz => ?_)
        rcases List.mem_append.1 hz with hz | hz
        · exact hw z hz
        · refine wf64 ?_
          simp only [List.mem_cons, List.not_mem_nil, or_false] at hz
          rcases hz with rfl | rfl | rfl
          · exact hx64
          · unfold In64; omega
          · unfold In64; omega
      · exact ⟨9, two 9 1 M' s l (by omega) (by omega) (by omega) (hs.rdF (by decide) hw (by omega))⟩
  exact ⟨61, one 61 0 M ⟨none, 0, 0⟩ [] (by omega) (by omega) (Mem.le_refl _) SlK.nil rfl (by simp)⟩

end
end Go.Proofs.Ytoeijcmpkfjbfaa.HL
