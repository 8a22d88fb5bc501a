import Derived.Test.YtodobkbnmjgkdaaGreatPe18
set_option linter.unusedVariables false
set_option linter.unusedSimpArgs false
set_option maxRecDepth 100000
namespace Go.Proofs.YtodobkbnmjgkdaaGreat.HL
open Go.RowKit (Below)
open Go.Proofs
section
variable {P : Program} {w0 : World} {M M' M0 F : Mem}
theorem eE (A B C B' : List Value) (h : B'.length = B.length) {o : Nat} (ho : o = A.length) : eO (A ++ (B ++ C)) o B' = A ++ (B' ++ C) := by
  subst ho
  apply List.ext_getElem?
  intro j
  rw [xH _ _ _ _ (by simp; omega)]
  simp only [List.getElem?_append]
  by_cases h1 : j < A.length
  · simp only [if_pos h1]
  · by_cases h2 : j < A.length + B'.length
    · simp only [if_neg h1, if_pos h2, if_pos (show j - A.length < B'.length by omega)]
    · simp only [if_neg h1, if_neg h2, if_neg (show ¬ j - A.length < B.length by omega), if_neg (show ¬ j - A.length < B'.length by omega)]
      rw [h]
theorem aLT {t t' ty e : TypeId} {i : TypeInfo} (ht : P.underlying t = some (.slice e)) (hi : P.info? e = some i) {d x : SV} {news : List Value} {K : VP} (n : Nat) (en : n = min x.n d.n)
    (hn : news.length = n * i.size) (hcn : gW w0 M x.a news) (hnn : x.a = none → n = 0)
    (hnil : d.a = none → K (.int .i64 (n : Int)) M)
    (hput : ∀ a, d.a = some a → ∃ b o cs e', a = ⟨b, o, none⟩ ∧ cS w0 M b cs e' ∧ o + news.length ≤ cs.length ∧ (∀ v ∈ news, bS v = true) ∧ K (.int .i64 (n : Int)) (M.set b (.row (eO cs o news) e'))) :
    (aJ P w0).cpy #[t, t'] ty [d.v, x.v] K M := by
  obtain ⟨da, dn, dc⟩ := d
  obtain ⟨xa, xn, xc⟩ := x
  simp only at *
  subst en
  have hfn : fD P w0 M (Builtin.firstCells i.size (Nat.min xn dn) (.slice xa xn xc)) = some news.toArray := vL hn hcn hnn
  show act P w0 (Builtin.copy_ #[t, t'] ty #[.slice da dn dc, .slice xa xn xc]) K M
  unfold Builtin.copy_
  simp only [List.getElem?_toArray, List.getElem?_cons_zero, List.getElem?_cons_succ, cA (eP ht), cA (oE hi), eJ, iP, nT (eP ht), Builtin.lenOf]
  rw [nT hfn]
  cases da with
  | none => exact hnil rfl
  | some a =>
    obtain ⟨b, o, cs, e', rfl, hown, hl, hv, hK⟩ := hput a rfl
    refine uA (f := fun _ => pure (goInt (Nat.min xn dn))) b news cs o 0 e' M hown.1 hown.2 (by simpa using hl) hv ?_
    rw [iP, Nat.add_zero]; exact hK
theorem aJ6 {t ti ty e : TypeId} {i : TypeInfo} {z : Value} {k : IntKind} (ht : P.underlying t = some (.slice e)) (hti : P.underlying ti = some (.int k)) (hi : P.info? e = some i) (hz : i.zero = some z) {s : SV} {n : Nat} {olds : List Value} {K : VP}
    (ho : olds.length = s.n * i.size) (hco : gW w0 M s.a olds) (hno : s.a = none → s.n = 0)
    (hb : 0 < i.bytes) (h47 : (s.n + n) * i.bytes ≤ 140737488355328) (hg : s.c < s.n + n) (hsz : n * i.size ≠ 0)
    (hgrow : ∀ b c, M b = none → w0.heap.size ≤ b → s.n + n ≤ c → K (.slice (some ⟨b, 0, none⟩) (s.n + n) c) (M.set b (.row (olds ++ iN z n ++ iN z (c - (s.n + n))) e))) :
    (aJ P w0).app #[t, ti] ty [s.v, .int .i64 (n : Int)] K M := by
  obtain ⟨sa, sn, sc⟩ := s
  simp only at *
  have hfo : fD P w0 M (Builtin.firstCells i.size sn (.slice sa sn sc)) = some olds.toArray := vL ho hco hno
  have hlen : sn + n ≤ 140737488355328 := Nat.le_trans (Nat.le_mul_of_pos_right _ hb) h47
  have hw : IntKind.i64.wrap (n : Int) = (n : Int) := aQ (by omega)
  have hnb : n * i.bytes ≤ 140737488355328 := Nat.le_trans (Nat.mul_le_mul_right _ (by omega)) h47
  show act P w0 (Builtin.append_ #[t, ti] ty #[.slice sa sn sc, .int .i64 (n : Int)]) K M
  unfold Builtin.append_
  simp only [List.getElem?_toArray, List.getElem?_cons_zero, List.getElem?_cons_succ, cA (eP ht), cA (eP hti), cA (oE hi), eJ, iP, nT (eP ht), nT (eP hti), asInt, asIntOf]
  simp only [if_true, eJ, iP, hw, Int.toNat_natCast]
  rw [tJ, if_neg (by omega)]
  simp only [eJ, nT (lV hi)]
  rw [tJ, if_neg (by
    intro h
    have h9 := Int.ofNat_le.2 hnb
    rw [Int.natCast_mul] at h9
    generalize (n : Int) * (i.bytes : Int) = q at h h9
    omega)]
  have h63 : ¬ (((sn + n : Nat) : Int) > IntKind.i64.max ∧ (True ∨ i.bytes = 0)) := by
    rintro ⟨h9, _⟩
    have : IntKind.i64.max = 9223372036854775807 := rfl
    omega
  have h48 : ¬ (Builtin.nextslicecap (sn + n) sc * i.bytes > 2 ^ 48) := by
    have := growslice_fits (bytes := i.bytes) hg h47
    omega
  simp only [eJ, iP]
  rw [tJ, if_neg (by omega)]
  simp only [eJ, nT (lV hi)]
  rw [tJ, if_neg h63]
  simp only [eJ, nT (lV hi)]
  rw [tJ, if_neg h48]
  rw [eJ]
  show act P w0 (choose _) _ M
  unfold choose
  simp only [act]
  rw [if_neg (by simp [Question.forced])]
  intro tp
  simp only [Question.cut]
  generalize hc : sn + n + tp % (2 ^ 63 - (sn + n)) = c
  have hnc : sn + n ≤ c := by omega
  rw [cA (lV hi)]
  unfold askRoom
  rw [eJ, tJ]
  split
  all_goals
    first
      | rw [iP]
      | (unfold mark; simp only [act])
    rw [cA hfo, if_neg (by decide)]
    simp only [eJ, nT (rF hi hz), iP]
    simp only [newRow, newObj]
    refine ⟨rfl, fun b hb0 hb1 => ?_⟩
    have := hgrow b c hb0 hb1 hnc
    show K (.slice (some ⟨b, 0, none⟩) (sn + n) c) (M.set b (.row ((olds.toArray ++ Builtin.zeroCells z.cells n ++ Builtin.zeroCells z.cells (c - (sn + n))).toList) e))
    simpa [iN, List.append_assoc] using this
theorem aEg {f : FuncId} {fn : Func} {tS tR e : TypeId} {size : Nat} (hf : P.funcs[f]? = some fn) (hname : (fn.name == "runtime.NumGoroutine") = false) (hb : fn.body.isNone = true) (hn : Extern.findNext fn = none)
    (he : Extern.find fn = some (Extern.SlicesOverlaps.overlaps #[tS, tS] #[tR])) (ht : P.underlying tS = some (.slice e)) (hi : (P.info? e).map (·.size) = some size)
    {a b oa ob la ca lb cb : Nat} {csa csb : List Value} {ea eb : TypeId} (eT : a ≠ b) (hA : cS w0 M a csa ea) (hB : cS w0 M b csb eb) (hk : csb ≠ []) {R : VP} (hR : R (.bool false) M) :
    C P w0 f #[.slice (some ⟨a, oa, none⟩) la ca, .slice (some ⟨b, ob, none⟩) lb cb] R M := by
  refine .inr fun w hw => ?_
  obtain ⟨G, hG1, hG2, hG3, hG4⟩ := hw
  have ha := (hG3 a _ hA.2).2
  have hb' := (hG3 b _ hB.2).2
  simp only [Ob.holds] at ha hb'
  refine ⟨.bool false, w, M, ?_, hR, ⟨G, hG1, hG2, hG3, hG4⟩⟩
  rw [run_callFunc_extern hf hname hb hn he]
  obtain ⟨inf, hinf, hsz⟩ : ∃ inf, P.info? e = some inf ∧ inf.size = size := by
    cases h : P.info? e with
    | none => rw [h] at hi; cases hi
    | some inf => rw [h] at hi; exact ⟨inf, rfl, Option.some.inj hi⟩
  rw [Lib.run_overlaps_apart w tS tR e ht size (fun w => by simp [sizeOf, typeInfo, program, Sem.run, hinf, hsz]) ⟨a, oa, none⟩ ⟨b, ob, none⟩ la ca lb cb eT ea eb csa.length csb.length (by simp [World.shape?, ha]) (by simp [World.shape?, hb']) (fun h => hk (List.eq_nil_of_length_eq_zero h)) (by simp [World.frozen?, ha]) (by simp [World.frozen?, ha])]
  rfl
end
end Go.Proofs.YtodobkbnmjgkdaaGreat.HL
