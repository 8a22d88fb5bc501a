/-
  Put together of many texts: HlA HlB HlC HlD HlE HlF HlH HlI HlS HlK HlX PoM OrM EnM HlL HlG GenId GenW Gen0 Gen1 Gen2 Gen3 Gen4 Gen5 Gen6 Gen7 Gen8 Gen9 Gen10 Gen11 Gen12 BkA OrA HlQ CmA EnA EnB MdA MdB EnC JuM MdS MpA JuA JuB JuC JuD JuE JuF JuG JuH DrM JuI BlM BiA BuA OrD OrE OrF JuJ FlA LmB JuK JuL JuN PoA PoB PoC DrA DrB DrC DrD DrL JuP JuQ JuR JuS JuT JuU HlR.
-/
import Derived.Test.YtedofpnjmnkedaaP19
set_option linter.unusedVariables false
set_option linter.unusedSimpArgs false
namespace Go.Proofs.Ytedofpnjmnkedaa.HL
def mkJ (j : JobA) (i : Nat) : Jb := ⟨j.queue, j.data, j.key, (i : Int), j.at_, j.gen⟩
def inJ : Nat → List JobA → List Jb
  | _, [] => []
  | n, j :: l => if j.inn = true then mkJ j n :: inJ (n + 1) l else inJ (n + 1) l
theorem inJ_app : ∀ (l m : List JobA) (n : Nat), inJ n (l ++ m) = inJ n l ++ inJ (n + l.length) m
  | [], m, n => rfl
  | j :: l, m, n => by
    simp only [List.cons_append, inJ, inJ_app l m (n + 1), List.length_cons]
    rw [show n + 1 + l.length = n + (l.length + 1) from by omega]
    split <;> rfl
theorem inJ_mid (A B : List JobA) (j : JobA) (n : Nat) : inJ n (A ++ j :: B) = inJ n A ++ ((if j.inn = true then [mkJ j (n + A.length)] else []) ++ inJ (n + A.length + 1) B) := by
  rw [inJ_app, inJ]
  split <;> rfl
theorem inJ_mem : ∀ {l : List JobA} {n : Nat} {x : Jb}, x ∈ inJ n l → ∃ (i : Nat) (j : JobA), l[i]? = some j ∧ j.inn = true ∧ x = mkJ j (n + i)
  | [], n, x, h => by cases h
  | j :: l, n, x, h => by
    rw [inJ] at h
    split at h
    · rename_i hc
      rcases List.mem_cons.1 h with rfl | h
      · exact ⟨0, j, rfl, hc, rfl⟩
      · obtain ⟨i, k, h1, h2, h3⟩ := inJ_mem h
        exact ⟨i + 1, k, h1, h2, by rw [h3, show n + 1 + i = n + (i + 1) from by omega]⟩
    · obtain ⟨i, k, h1, h2, h3⟩ := inJ_mem h
      exact ⟨i + 1, k, h1, h2, by rw [h3, show n + 1 + i = n + (i + 1) from by omega]⟩
theorem inJ_len (n : Nat) (l : List JobA) : (inJ n l).length = (inE (fun _ => true) n l).length := by
  induction l generalizing n with
  | nil => rfl
  | cons j l ih =>
    rw [inJ, inE, Bool.and_true]
    split
    · rw [List.length_cons, List.length_cons, ih]
    · exact ih _
theorem inJ_count (q : Int) (n : Nat) (l : List JobA) : countD q (inJ n l) = (inE (ofQ q) n l).length := by
  induction l generalizing n with
  | nil => rfl
  | cons j l ih =>
    have ih' := ih (n + 1)
    unfold countD at ih' ⊢
    rw [inJ, inE]
    by_cases hi : j.inn = true
    · rw [if_pos hi, List.countP_cons, ih']
      by_cases hq : j.queue = q
      · simp [hi, ofQ, hq, mkJ]
      · simp [hi, ofQ, hq, mkJ]
    · rw [if_neg hi, ih', if_neg (by simp [hi])]
theorem inJ_merge (n : Nat) (l : List JobA) (h : QInv l) : inJ n (l.map fun j => { j with queue := 0 }) = (inJ n l).map fun j => if j.queue = 1 then { j with queue := 0 } else j := by
  induction l generalizing n with
  | nil => rfl
  | cons j l ih =>
    have ih' := ih (n + 1) (fun x hx => h x (List.mem_cons_of_mem _ hx))
    rw [List.map_cons, inJ, inJ, ih']
    by_cases hi : j.inn = true
    · rw [if_pos hi, if_pos hi, List.map_cons]
      congr 1
      rcases h j List.mem_cons_self with hq | hq
      · rw [if_neg (by simp [mkJ, hq])]
        unfold mkJ
        rw [hq]
      · rw [if_pos (by simp [mkJ, hq])]; rfl
    · rw [if_neg hi, if_neg hi]
theorem inJ_at {l : List JobA} {i : Nat} {j : JobA} (h : l[i]? = some j) (hin : j.inn = true) : ∃ k, (inJ 0 l)[k]? = some (mkJ j i) ∧ (∀ k' x, k' < k → (inJ 0 l)[k']? = some x → ∃ i' j', i' < i ∧ l[i']? = some j' ∧ x = mkJ j' i') ∧
    (inJ 0 l).eraseIdx k = inJ 0 (l.set i { j with inn := false }) ∧ (∀ t, (inJ 0 l).set k (mkJ { j with key := t } i) = inJ 0 (l.set i { j with key := t })) ∧ ∀ k' x, (inJ 0 l)[k']? = some x → x.ser = (i : Int) → k' = k := by
  obtain ⟨A, B, rfl, hl, hs⟩ := split_at h
  refine ⟨(inJ 0 A).length, ?_, ?_, ?_, ?_, ?_⟩
  · rw [inJ_mid, if_pos hin, List.getElem?_append_right (Nat.le_refl _), Nat.sub_self, Nat.zero_add, hl]; rfl
  · intro k' x hk hx
    rw [inJ_mid, List.getElem?_append_left hk] at hx
    obtain ⟨i', j', h1, h2, h3⟩ := inJ_mem (List.mem_of_getElem? hx)
    have hlt := (List.getElem?_eq_some_iff.1 h1).1
    exact ⟨i', j', by omega, by rw [List.getElem?_append_left hlt]; exact h1, by rw [h3, Nat.zero_add]⟩
  · rw [hs, inJ_mid, inJ_mid, if_pos hin, if_neg (by simp), List.nil_append, List.singleton_append, List.eraseIdx_append_of_length_le (Nat.le_refl _), Nat.sub_self]; rfl
  · intro t
    rw [hs, inJ_mid, inJ_mid, if_pos hin, if_pos (by exact hin), List.set_append_right _ _ (Nat.le_refl _), Nat.sub_self, Nat.zero_add, hl]; rfl
  · intro k' x hx hser
    rw [inJ_mid, if_pos hin, Nat.zero_add, hl] at hx
    by_cases h1 : k' < (inJ 0 A).length
    · rw [List.getElem?_append_left h1] at hx
      obtain ⟨i', j', h3, _, h4⟩ := inJ_mem (List.mem_of_getElem? hx)
      have hlt := (List.getElem?_eq_some_iff.1 h3).1
      rw [h4] at hser
      simp only [mkJ] at hser; omega
    · by_cases h2 : k' = (inJ 0 A).length
      · exact h2
      · rw [List.getElem?_append_right (by omega), List.singleton_append, show k' - (inJ 0 A).length = (k' - (inJ 0 A).length - 1) + 1 from by omega, List.getElem?_cons_succ] at hx
        obtain ⟨i', j', h3, _, h4⟩ := inJ_mem (List.mem_of_getElem? hx)
        rw [h4] at hser
        simp only [mkJ] at hser; omega
structure RelD (jobs : Int) (d : D22) (st : St) : Prop where
  mo : d.pool.most = jobs
  now : d.now = st.now
  nx : d.next = (st.l.length : Int)
  l : d.l = inJ 0 st.l
  pl : PlOk d.pool
  r1 : ∀ (i : Nat) j, st.l[i]? = some j → ∃ (n : Nat) (g : Int), j.at_ = (n : Int) ∧ d.pool.gens[n]? = some g ∧ 1 ≤ j.gen ∧ j.gen ≤ g ∧ (j.inn = true ↔ (g = j.gen ∧ d.pool.ins[n]? = some true))
  r2 : ∀ (n : Nat) (g g' : Int), d.pool.gens[n]? = some g → 1 ≤ g' → g' ≤ g → ∃ j ∈ st.l, j.at_ = (n : Int) ∧ j.gen = g'
  r3 : (st.l.map fun j => (j.at_, j.gen)).Nodup
  r4 : d.l.length + d.pool.back.length = d.pool.gens.length
  r5 : ∀ g ∈ d.pool.gens, 1 ≤ g ∧ g ≤ (st.l.length : Int)
  r6 : (d.pool.gens.length : Int) ≤ jobs
  q : QInv st.l
theorem RelD.new {n : Int} (h : 0 ≤ n) : RelD n (D22.new n) ⟨0, []⟩ :=
  ⟨rfl, rfl, rfl, rfl, PlOk.nil n, fun i j h => (by simp at h), fun n g g' h => (by simp [D22.new] at h), List.nodup_nil, rfl, fun g h => (by cases h), h, fun j h => (by cases h)⟩
section
variable {jobs : Int} {d : D22} {st : St}
theorem findA_spec {l : List JobA} {a g : Int} {i : Nat} (h : findA l a g = some i) : ∃ j, l[i]? = some j ∧ j.at_ = a ∧ j.gen = g := by
  obtain ⟨h1, h2, _⟩ := List.findIdx?_eq_some_iff_getElem.1 h
  exact ⟨l[i], List.getElem?_eq_getElem h1, by simpa using h2⟩
theorem findA_of {l : List JobA} (hn : (l.map fun j => (j.at_, j.gen)).Nodup) {i : Nat} {j : JobA} (h : l[i]? = some j) : findA l j.at_ j.gen = some i := by
  obtain ⟨hi, rfl⟩ := List.getElem?_eq_some_iff.1 h
  unfold findA
  refine List.findIdx?_eq_some_iff_getElem.2 ⟨hi, by simp, fun k hk => ?_⟩
  have hkl : k < l.length := by omega
  simp only [decide_eq_true_eq]
  intro hh
  exact List.pairwise_iff_getElem.1 hn k i (by simpa using hkl) (by simpa using hi) hk (by simp only [List.getElem_map]; exact Prod.ext hh.1 hh.2)
theorem RelD.look_none (h : RelD jobs d st) {a g : Int} (hf : findA st.l a g = none) : d.pool.look a g = 22 := by
  unfold Pl.look
  by_cases hc : a < 0 ∨ (d.pool.gens.length : Int) ≤ a ∨ g < 1 ∨ d.pool.gens.getD a.toNat 0 < g
  · rw [if_pos hc]
  · exfalso
    have hlt : a.toNat < d.pool.gens.length := by omega
    have hg := List.getElem?_eq_getElem hlt
    rw [List.getD_eq_getElem?_getD, hg] at hc
    simp only [Option.getD_some] at hc
    obtain ⟨j, hj, h1, h2⟩ := h.r2 a.toNat _ g hg (by omega) (by omega)
    have := List.findIdx?_eq_none_iff.1 hf j hj
    simp only [decide_eq_false_iff_not] at this
    exact this ⟨by omega, h2⟩
theorem RelD.look_some (h : RelD jobs d st) {i : Nat} {j : JobA} (hj : st.l[i]? = some j) : d.pool.look j.at_ j.gen = if j.inn = true then 0 else 23 := by
  obtain ⟨n, g, h1, h2, h3, h4, h5⟩ := h.r1 i j hj
  have hlt := (List.getElem?_eq_some_iff.1 h2).1
  unfold Pl.look
  rw [h1, Int.toNat_natCast, List.getD_eq_getElem?_getD, h2, List.getD_eq_getElem?_getD]
  simp only [Option.getD_some]
  rw [if_neg (by omega)]
  by_cases hi : j.inn = true
  · obtain ⟨h6, h7⟩ := h5.1 hi
    rw [if_pos hi, h7, if_neg (fun hh => by rcases hh with hh | hh; omega; cases hh)]
  · rw [if_neg hi, if_pos]
    by_cases hg : j.gen < g
    · exact .inl hg
    · right
      have hge : g = j.gen := by omega
      have hni : d.pool.ins[n]? ≠ some true := fun hh => hi (h5.2 ⟨hge, hh⟩)
      cases hx : d.pool.ins[n]? with
      | none => rfl
      | some b =>
        cases b with
        | true => exact absurd hx hni
        | false => rfl
theorem RelD.atD (h : RelD jobs d st) {i : Nat} {j : JobA} (hj : st.l[i]? = some j) (hin : j.inn = true) : ∃ k, atD d.l j.at_ j.gen = some k ∧ d.l[k]? = some (mkJ j i) ∧ d.l.eraseIdx k = inJ 0 (st.l.set i { j with inn := false }) ∧ ∀ t, d.l.set k { mkJ j i with key := t } = inJ 0 (st.l.set i { j with key := t }) := by
  obtain ⟨k, h1, h2, h3, h4, _⟩ := inJ_at hj hin
  rw [← h.l] at h1 h2 h3 h4
  refine ⟨k, ?_, h1, h3, fun t => h4 t⟩
  have hkl := (List.getElem?_eq_some_iff.1 h1).1
  have hke := (List.getElem?_eq_some_iff.1 h1).2
  refine List.findIdx?_eq_some_iff_getElem.2 ⟨hkl, by rw [hke]; simp [mkJ], fun k' hk' => ?_⟩
  simp only [decide_eq_true_eq]
  intro hh
  obtain ⟨i', j', h5, h6, h7⟩ := h2 k' _ hk' (List.getElem?_eq_getElem (by omega))
  rw [h7] at hh
  simp only [mkJ] at hh
  have hii := findA_of h.r3 h6
  rw [hh.1, hh.2, findA_of h.r3 hj] at hii
  simp only [Option.some.injEq] at hii; omega
theorem RelD.all (h : RelD jobs d st) : (allE st.l).length = d.l.length := by
  unfold allE
  rw [sortE_len, ← inJ_len, h.l]
theorem RelD.ok (h : RelD jobs d st) (hj : jobs ≤ 100) (hl : st.l.length ≤ 1000) : DOk d := by
  have h4 := h.r4
  have h6 := h.r6
  refine ⟨h.pl, fun a g hz => ?_, fun j hj => ?_, by omega, by omega, fun g hg => ?_, by omega, by rw [h.nx]; omega⟩
  · cases hf : findA st.l a g with
    | none => rw [h.look_none hf] at hz; cases hz
    | some i =>
      obtain ⟨j, hj, rfl, rfl⟩ := findA_spec hf
      rw [h.look_some hj] at hz
      by_cases hi : j.inn = true
      · obtain ⟨k, hk, _⟩ := h.atD hj hi
        exact ⟨k, hk⟩
      · rw [if_neg hi] at hz; cases hz
  · rw [h.l] at hj
    obtain ⟨i, j0, h1, h2, rfl⟩ := inJ_mem hj
    have := h.look_some h1
    rw [if_pos h2] at this
    exact this
  · have := h.r5 g hg
    omega
theorem RelD.outs (h : RelD jobs d st) {i : Nat} {j : JobA} (hj : st.l[i]? = some j) (hin : j.inn = true) {k : Nat} (hk : d.l[k]? = some (mkJ j i)) (he : d.l.eraseIdx k = inJ 0 (st.l.set i { j with inn := false })) : RelD jobs (d.out k) ⟨st.now, st.l.set i { j with inn := false }⟩ := by
  have hil := (List.getElem?_eq_some_iff.1 hj).1
  obtain ⟨n, g, h1, h2, h3, h4, h5⟩ := h.r1 i j hj
  obtain ⟨h6, h7⟩ := h5.1 hin
  have hnl := (List.getElem?_eq_some_iff.1 h7).1
  have hout : d.out k = { d with l := d.l.eraseIdx k, pool := d.pool.give n } := by
    unfold D22.out
    rw [hk]
    simp only [mkJ, h1, Int.toNat_natCast]
  rw [hout]
  have hag : ∀ (a : Nat) (x : JobA), (st.l.set i { j with inn := false })[a]? = some x → ∃ y, st.l[a]? = some y ∧ x.at_ = y.at_ ∧ x.gen = y.gen := fun a x hx => by
    by_cases ha : a = i
    · subst ha
      rw [List.getElem?_set_self hil] at hx; cases hx
      exact ⟨j, hj, rfl, rfl⟩
    · rw [List.getElem?_set_ne (Ne.symm ha)] at hx
      exact ⟨x, hx, rfl, rfl⟩
  have hmap : (st.l.set i { j with inn := false }).map (fun j => (j.at_, j.gen)) = st.l.map fun j => (j.at_, j.gen) := by
    obtain ⟨_, rfl⟩ := List.getElem?_eq_some_iff.1 hj
    rw [List.map_set]
    simp only
    rw [show (st.l[i].at_, st.l[i].gen) = (st.l.map fun j => (j.at_, j.gen))[i]'(by simpa using hil) from by simp, List.set_getElem_self]
  refine ⟨h.mo, h.now, by rw [List.length_set]; exact h.nx, he, h.pl.give h7, fun a x hx => ?_, fun n' g1 g' hg1 h8 h9 => ?_, by rw [hmap]; exact h.r3, ?_, fun g' hg' => ?_, h.r6, fun x hx => ?_⟩
  · by_cases ha : a = i
    · subst ha
      rw [List.getElem?_set_self hil] at hx; cases hx
      refine ⟨n, g, h1, h2, h3, h4, ?_⟩
      simp only [Bool.false_eq_true, false_iff]
      intro hh
      simp only [Pl.give] at hh
      rw [List.getElem?_set_self hnl] at hh
      cases hh.2
    · rw [List.getElem?_set_ne (Ne.symm ha)] at hx
      obtain ⟨n', g', k1, k2, k3, k4, k5⟩ := h.r1 a x hx
      refine ⟨n', g', k1, k2, k3, k4, ?_⟩
      by_cases hnn : n' = n
      · subst hnn
        simp only [Pl.give]
        rw [List.getElem?_set_self hnl]
        rw [h2] at k2; cases k2
        constructor
        · intro hxi
          obtain ⟨k6, _⟩ := k5.1 hxi
          exfalso
          have hfx := findA_of h.r3 hx
          rw [k1, ← h1, ← k6, h6, findA_of h.r3 hj] at hfx
          exact ha (Option.some.inj hfx).symm
        · rintro ⟨_, hh⟩; cases hh
      · simp only [Pl.give]
        rw [List.getElem?_set_ne (Ne.symm hnn)]; exact k5
  · obtain ⟨x, hx, k1, k2⟩ := h.r2 n' g1 g' hg1 h8 h9
    obtain ⟨a, ha⟩ := List.getElem?_of_mem hx
    by_cases hai : a = i
    · subst hai
      rw [hj] at ha; cases ha
      exact ⟨{ j with inn := false }, List.mem_iff_getElem?.2 ⟨a, by rw [List.getElem?_set_self hil]⟩, k1, k2⟩
    · exact ⟨x, List.mem_iff_getElem?.2 ⟨a, by rw [List.getElem?_set_ne (Ne.symm hai)]; exact ha⟩, k1, k2⟩
  · have := h.r4
    have hkl := (List.getElem?_eq_some_iff.1 hk).1
    simp only [Pl.give, List.length_append, List.length_singleton, List.length_eraseIdx, if_pos hkl]
    omega
  · rw [List.length_set]; exact h.r5 g' hg'
  · rcases List.mem_or_eq_of_mem_set hx with hx | rfl
    · exact h.q x hx
    · exact h.q j (List.mem_of_getElem? hj)
theorem RelD.step (h : RelD jobs d st) {c : Cmd} : ∃ st', stepA jobs st c (do22 d c).2 = some (st', (do22 d c).2) ∧ RelD jobs (do22 d c).1 st' := by
  by_cases hb : badQ c
  · rw [do22_bad hb]
    exact ⟨st, stepA_bad hb, h⟩
  · by_cases k1 : c.kind = 1
    · have hq : c.queue = 0 ∨ c.queue = 1 := by unfold badQ at hb; omega
      rw [do22_1 hb k1]
      have h4 := h.r4
      have h6 := h.r6
      have hall := h.all
      cases ha : d.pool.at_ with
      | none =>
        refine ⟨st, ?_, h⟩
        rw [stepA_1 hb k1, if_pos]
        unfold Pl.at_ at ha
        cases hl : d.pool.back.getLast? with
        | some x => rw [hl] at ha; cases ha
        | none =>
          rw [hl] at ha
          have hbn : d.pool.back = [] := List.getLast?_eq_none_iff.1 hl
          simp only at ha
          split at ha
          · rename_i hm
            rw [h.mo] at hm
            rw [hall]
            rw [hbn] at h4
            simp at h4; omega
          · cases ha
      | some a =>
        simp only
        obtain ⟨a1, a2, a3, a4⟩ := h.pl.take_lt ha
        have hold : (a < d.pool.gens.length ∧ d.pool.ins[a]? = some false ∧ d.pool.grow = { d.pool with back := d.pool.back.dropLast } ∧ d.pool.back.getLast? = some a) ∨ (a = d.pool.gens.length ∧ d.pool.back = [] ∧ d.pool.grow = { d.pool with gens := d.pool.gens ++ [0], ins := d.pool.ins ++ [false], vs := d.pool.vs ++ [0] } ∧ (d.pool.gens.length : Int) < jobs) := by
          unfold Pl.at_ at ha
          cases hl : d.pool.back.getLast? with
          | some x =>
            rw [hl] at ha
            simp only [Option.some.injEq] at ha
            subst ha
            have := h.pl.bk x (last_mem hl)
            refine .inl ⟨this.1, this.2, ?_, rfl⟩
            unfold Pl.grow; rw [hl]
          | none =>
            rw [hl] at ha
            simp only at ha
            split at ha
            · cases ha
            · rename_i hm
              simp only [Option.some.injEq] at ha
              refine .inr ⟨ha.symm, List.getLast?_eq_none_iff.1 hl, ?_, by rw [← h.mo]; omega⟩
              unfold Pl.grow; rw [hl]
        have hlive : ¬ jobs ≤ ((allE st.l).length : Int) := by
          rw [hall]
          rcases hold with ⟨b1, b2, b3, b4⟩ | ⟨b1, b2, b3, b4⟩
          · have : d.pool.back.length ≠ 0 := fun e => by rw [List.eq_nil_of_length_eq_zero e] at b4; cases b4
            omega
          · omega
        have hgen : (∃ g, d.pool.gens[a]? = some g ∧ d.pool.gen a = g + 1) ∨ (d.pool.gens[a]? = none ∧ d.pool.gen a = 1) := by
          unfold Pl.gen
          rcases hold with ⟨b1, b2, b3, b4⟩ | ⟨b1, b2, b3, b4⟩
          · left
            rw [b3]
            exact ⟨d.pool.gens[a], List.getElem?_eq_getElem b1, by simp only; rw [List.getD_eq_getElem?_getD, List.getElem?_eq_getElem b1]; rfl⟩
          · right
            rw [b3, b1]
            refine ⟨List.getElem?_eq_none (Nat.le_refl _), ?_⟩
            simp only
            rw [List.getD_eq_getElem?_getD, List.getElem?_append_right (Nat.le_refl _)]; simp
        have hge1 : 1 ≤ d.pool.gen a := by
          rcases hgen with ⟨g, g1, g2⟩ | ⟨g1, g2⟩
          · have := (h.r5 g (List.mem_of_getElem? g1)).1; omega
          · omega
        have hfresh : ∀ (i : Nat) j, st.l[i]? = some j → j.at_ = (a : Int) → j.gen < d.pool.gen a := fun i j hj hja => by
          obtain ⟨n, g, c1, c2, c3, c4, c5⟩ := h.r1 i j hj
          have hna : n = a := by omega
          subst hna
          rcases hgen with ⟨g', g1, g2⟩ | ⟨g1, g2⟩
          · rw [g1] at c2; cases c2; omega
          · rw [g1] at c2; cases c2
        have hfn : findA st.l (a : Int) (d.pool.gen a) = none := by
          cases hf : findA st.l (a : Int) (d.pool.gen a) with
          | none => rfl
          | some i =>
            obtain ⟨j, hj, e1, e2⟩ := findA_spec hf
            have := hfresh i j hj e1
            omega
        refine ⟨⟨st.now, st.l ++ [⟨(a : Int), d.pool.gen a, c.queue, c.data, c.time, true⟩]⟩, ?_, ?_⟩
        · rw [stepA_1 hb k1, if_neg hlive, if_neg]
          intro hh
          rcases hh with hh | hh
          · simp only at hh; omega
          · simp only [hfn] at hh; cases hh
        · -- the pool behind it
          have hgs : (d.pool.take a 0).gens = d.pool.grow.gens.set a (d.pool.gen a) := rfl
          have his : (d.pool.take a 0).ins = d.pool.grow.ins.set a true := rfl
          have gne : ∀ n, n ≠ a → (d.pool.take a 0).gens[n]? = d.pool.gens[n]? := fun n hn => by
            rw [hgs, List.getElem?_set_ne (Ne.symm hn)]
            rcases hold with ⟨b1, b2, b3, b4⟩ | ⟨b1, b2, b3, b4⟩
            · rw [b3]
            · rw [b3]
              simp only
              by_cases hlt : n < d.pool.gens.length
              · rw [List.getElem?_append_left hlt]
              · rw [List.getElem?_eq_none (by rw [List.length_append, List.length_singleton]; omega), List.getElem?_eq_none (by omega)]
          have ine : ∀ n, n ≠ a → (d.pool.take a 0).ins[n]? = d.pool.ins[n]? := fun n hn => by
            rw [his, List.getElem?_set_ne (Ne.symm hn)]
            rcases hold with ⟨b1, b2, b3, b4⟩ | ⟨b1, b2, b3, b4⟩
            · rw [b3]
            · rw [b3]
              simp only
              have := h.pl.li
              by_cases hlt : n < d.pool.ins.length
              · rw [List.getElem?_append_left hlt]
              · rw [List.getElem?_eq_none (by rw [List.length_append, List.length_singleton]; omega), List.getElem?_eq_none (by omega)]
          have ga : (d.pool.take a 0).gens[a]? = some (d.pool.gen a) := by rw [hgs, List.getElem?_set_self a1]
          have ia : (d.pool.take a 0).ins[a]? = some true := by rw [his, List.getElem?_set_self (by rw [a2]; exact a1)]
          have hjl : (st.l ++ [(⟨(a : Int), d.pool.gen a, c.queue, c.data, c.time, true⟩ : JobA)]).length = st.l.length + 1 := by simp
          refine ⟨h.mo ▸ ?_, h.now, by have := h.nx; simp only [List.length_append, List.length_singleton]; omega, ?_, h.pl.take ha, fun i j hj => ?_, fun n g g' hg c1 c2 => ?_, ?_, ?_, fun g hg => ?_, ?_, fun j hj => ?_⟩
          · unfold Pl.take Pl.put
            rcases hold with ⟨_, _, b3, _⟩ | ⟨_, _, b3, _⟩ <;> rw [b3]
          · rw [inJ_app, ← h.l, inJ, if_pos rfl, inJ, h.nx, Nat.zero_add]; rfl
          · by_cases hi : i < st.l.length
            · rw [List.getElem?_append_left hi] at hj
              obtain ⟨n, g, c1, c2, c3, c4, c5⟩ := h.r1 i j hj
              by_cases hna : n = a
              · subst hna
                refine ⟨n, d.pool.gen n, c1, ga, c3, Int.le_of_lt (hfresh i j hj c1), ?_⟩
                constructor
                · intro hji
                  obtain ⟨_, c6⟩ := c5.1 hji
                  rcases hold with ⟨_, b2, _, _⟩ | ⟨b1, _, _, _⟩
                  · rw [b2] at c6; cases c6
                  · have := (List.getElem?_eq_some_iff.1 c2).1; omega
                · rintro ⟨c6, _⟩
                  have := hfresh i j hj c1; omega
              · exact ⟨n, g, c1, by rw [gne n hna]; exact c2, c3, c4, by rw [ine n hna]; exact c5⟩
            · rw [List.getElem?_append_right (by omega)] at hj
              have : i - st.l.length = 0 := by
                have := (List.getElem?_eq_some_iff.1 hj).1
                simp at this; omega
              rw [this] at hj
              simp at hj; subst hj
              exact ⟨a, d.pool.gen a, rfl, ga, hge1, Int.le_refl _, ⟨fun _ => ⟨rfl, ia⟩, fun _ => rfl⟩⟩
          · by_cases hna : n = a
            · subst hna
              rw [ga] at hg; cases hg
              by_cases hlast : g' = d.pool.gen n
              · exact ⟨⟨(n : Int), d.pool.gen n, c.queue, c.data, c.time, true⟩, List.mem_append_right _ (by simp), rfl, hlast.symm⟩
              · rcases hgen with ⟨g0, g1, g2⟩ | ⟨g1, g2⟩
                · obtain ⟨j, hj, e1, e2⟩ := h.r2 n g0 g' g1 c1 (by omega)
                  exact ⟨j, List.mem_append_left _ hj, e1, e2⟩
                · omega
            · rw [gne n hna] at hg
              obtain ⟨j, hj, e1, e2⟩ := h.r2 n g g' hg c1 c2
              exact ⟨j, List.mem_append_left _ hj, e1, e2⟩
          · rw [List.map_append]
            refine List.nodup_append.2 ⟨h.r3, by simp, fun y hy z hz hyz => ?_⟩
            simp at hz
            obtain ⟨v, hv, rfl⟩ := List.mem_map.1 hy
            subst hyz
            simp only [Prod.mk.injEq] at hz
            obtain ⟨i, hi⟩ := List.getElem?_of_mem hv
            have := hfresh i v hi hz.1
            omega
          · simp only [List.length_append, List.length_singleton, hgs, List.length_set]
            unfold Pl.take Pl.put
            rcases hold with ⟨b1, b2, b3, b4⟩ | ⟨b1, b2, b3, b4⟩
            · rw [b3]
              simp only
              have hs := last_split b4
              have : d.pool.back.length = d.pool.back.dropLast.length + 1 := by
                conv => lhs; rw [hs]
                simp
              omega
            · rw [b3]
              simp only [List.length_append, List.length_singleton]
              omega
          · rw [hjl]
            have hbound : d.pool.gen a ≤ ((st.l.length + 1 : Nat) : Int) := by
              rcases hgen with ⟨g0, g1, g2⟩ | ⟨g1, g2⟩
              · have := h.r5 g0 (List.mem_of_getElem? g1); omega
              · omega
            rw [hgs] at hg
            rcases hold with ⟨b1, b2, b3, b4⟩ | ⟨b1, b2, b3, b4⟩
            · rw [b3] at hg
              rcases List.mem_or_eq_of_mem_set hg with hg | rfl
              · have := h.r5 g hg; omega
              · exact ⟨hge1, hbound⟩
            · rw [b3, b1] at hg
              simp only at hg
              rw [List.set_append_right _ _ (Nat.le_refl _), Nat.sub_self] at hg
              rcases List.mem_append.1 hg with hg | hg
              · have := h.r5 g hg; omega
              · simp at hg
                rw [b1] at hge1 hbound
                rw [hg]; exact ⟨hge1, hbound⟩
          · simp only [hgs, List.length_set]
            rcases hold with ⟨b1, b2, b3, b4⟩ | ⟨b1, b2, b3, b4⟩
            · rw [b3]; exact h6
            · rw [b3]
              simp only [List.length_append, List.length_singleton]
              omega
          · rcases List.mem_append.1 hj with hj | hj
            · exact h.q j hj
            · simp at hj; subst hj; exact hq
    · by_cases k2 : c.kind = 2 ∨ c.kind = 3
      · rw [do22_23 k2]
        cases hf : findA st.l c.at_ c.gen with
        | none =>
          have hlk := h.look_none hf
          rw [hlk, if_pos (by decide)]
          exact ⟨st, by rw [stepA_23 k2, hf], h⟩
        | some i =>
          obtain ⟨j, hj, e1, e2⟩ := findA_spec hf
          have hlk := h.look_some hj
          rw [e1, e2] at hlk
          by_cases hin : j.inn = true
          · rw [if_pos hin] at hlk
            obtain ⟨k, hk1, hk2, hk3, hk4⟩ := h.atD hj hin
            rw [e1, e2] at hk1
            rw [hlk, if_neg (by simp), hk1]
            simp only [hk2]
            by_cases k3 : c.kind = 3
            · rw [if_pos k3]
              refine ⟨⟨st.now, st.l.set i { j with inn := false }⟩, ?_, h.outs hj hin hk2 hk3⟩
              rw [stepA_23 k2, hf]
              simp only [hj, if_neg (show ¬ j.inn = false by rw [hin]; decide), if_pos k3]; rfl
            · rw [if_neg k3]
              by_cases hlt : (mkJ j i).key < c.time
              · rw [if_pos hlt]
                refine ⟨st, ?_, h⟩
                rw [stepA_23 k2, hf]
                simp only [hj, if_neg (show ¬ j.inn = false by rw [hin]; decide), if_neg k3, if_pos (show j.key < c.time from hlt)]
              · rw [if_neg hlt]
                refine ⟨⟨st.now, st.l.set i { j with key := c.time }⟩, ?_, ?_⟩
                · rw [stepA_23 k2, hf]
                  simp only [hj, if_neg (show ¬ j.inn = false by rw [hin]; decide), if_neg k3, if_neg (show ¬ j.key < c.time from hlt)]; rfl
                · have hil := (List.getElem?_eq_some_iff.1 hj).1
                  have hmap : (st.l.set i { j with key := c.time }).map (fun j => (j.at_, j.gen)) = st.l.map fun j => (j.at_, j.gen) := by
                    obtain ⟨_, rfl⟩ := List.getElem?_eq_some_iff.1 hj
                    rw [List.map_set]
                    simp only
                    rw [show (st.l[i].at_, st.l[i].gen) = (st.l.map fun j => (j.at_, j.gen))[i]'(by simpa using hil) from by simp, List.set_getElem_self]
                  refine ⟨h.mo, h.now, by rw [List.length_set]; exact h.nx, hk4 c.time, h.pl, fun a x hx => ?_, fun n g g' hg c1 c2 => ?_, by rw [hmap]; exact h.r3, by simp only [List.length_set]; exact h.r4, by rw [List.length_set]; exact h.r5, h.r6, fun x hx => ?_⟩
                  · by_cases ha : a = i
                    · subst ha
                      rw [List.getElem?_set_self hil] at hx; cases hx
                      exact h.r1 a j hj
                    · rw [List.getElem?_set_ne (Ne.symm ha)] at hx
                      exact h.r1 a x hx
                  · obtain ⟨x, hx, q1, q2⟩ := h.r2 n g g' hg c1 c2
                    obtain ⟨a, ha⟩ := List.getElem?_of_mem hx
                    by_cases hai : a = i
                    · subst hai
                      rw [hj] at ha; cases ha
                      exact ⟨{ j with key := c.time }, List.mem_iff_getElem?.2 ⟨a, by rw [List.getElem?_set_self hil]⟩, q1, q2⟩
                    · exact ⟨x, List.mem_iff_getElem?.2 ⟨a, by rw [List.getElem?_set_ne (Ne.symm hai)]; exact ha⟩, q1, q2⟩
                  · rcases List.mem_or_eq_of_mem_set hx with hx | rfl
                    · exact h.q x hx
                    · exact h.q j (List.mem_of_getElem? hj)
          · rw [if_neg hin] at hlk
            rw [hlk, if_pos (by decide)]
            refine ⟨st, ?_, h⟩
            rw [stepA_23 k2, hf]
            simp only [hj, if_pos (show j.inn = false by simpa using hin)]
      · by_cases k4 : c.kind = 4
        · rw [do22_4 k4]
          by_cases ht : c.time < 0
          · rw [if_pos ht]
            exact ⟨st, by rw [stepA_4 k4, if_pos ht], h⟩
          · rw [if_neg ht]
            refine ⟨⟨addc st.now c.time, st.l⟩, by rw [stepA_4 k4, if_neg ht, h.now], ⟨h.mo, by rw [h.now], h.nx, h.l, h.pl, h.r1, h.r2, h.r3, h.r4, h.r5, h.r6, h.q⟩⟩
        · by_cases k5 : c.kind = 5
          · rw [do22_5 hb k5]
            cases hf : firstD d.l c.queue with
            | none =>
              refine ⟨st, ?_, h⟩
              have hno := (firstG_none hf).2
              rw [stepA_5 hb k5]
              cases hh : (qE c.queue st.l).head? with
              | none => rfl
              | some e =>
                exfalso
                obtain ⟨i, j, h1, h2, h3, h4⟩ := qE_head hh
                obtain ⟨k, h5, _⟩ := inJ_at h1 h2
                rw [← h.l] at h5
                exact hno _ (List.mem_of_getElem? h5) h3
            | some y =>
              obtain ⟨jb, hj, hjq, hye, hmin⟩ := firstD_some hf
              obtain ⟨y1, y2⟩ := y
              simp only at hj hye
              subst hye
              have hjm := List.mem_of_getElem? hj
              rw [h.l] at hjm
              obtain ⟨i, j, h1, h2, h3⟩ := inJ_mem hjm
              rw [Nat.zero_add] at h3
              subst h3
              obtain ⟨k, c1, c2, c3, c4, c5⟩ := inJ_at h1 h2
              rw [← h.l] at c1 c2 c3 c4 c5
              have hky : y1 = k := c5 y1 _ hj rfl
              subst hky
              have hhd : (qE c.queue st.l).head? = some (j.key, (i : Int)) := by
                have hmem : (j.key, (i : Int)) ∈ qE c.queue st.l := (sortE_perm _).mem_iff.2 (inE_mem.2 ⟨i, j, h1, h2, by simp only [ofQ, decide_eq_true_eq]; exact hjq, by rw [Nat.zero_add]⟩)
                cases hl : qE c.queue st.l with
                | nil => rw [hl] at hmem; cases hmem
                | cons e t =>
                  have hhe : (qE c.queue st.l).head? = some e := by rw [hl]; rfl
                  obtain ⟨i', j', d1, d2, d3, d4⟩ := qE_head hhe
                  have hsr : Srt (e :: t) := by rw [← hl]; exact sortE_srt _
                  rw [hl] at hmem
                  have n1 : ¬ Lt (j.key, (i : Int)) e := by
                    rcases List.mem_cons.1 hmem with hh | hh
                    · rw [hh]; exact Lt.irr
                    · exact List.rel_of_pairwise_cons hsr hh
                  obtain ⟨k', e1, _⟩ := inJ_at d1 d2
                  rw [← h.l] at e1
                  have n2 : ¬ Lt e (j.key, (i : Int)) := by
                    rw [d4]
                    exact hmin _ (List.mem_of_getElem? e1) d3
                  rw [Lt.tot n1 n2]; rfl
              rw [stepA_5 hb k5, hhd]
              simp only [hj]
              by_cases hdue : d.now < (mkJ j i).e.1
              · rw [if_pos hdue]
                exact ⟨st, by rw [if_pos (by rw [← h.now]; exact hdue)], h⟩
              · rw [if_neg hdue]
                refine ⟨⟨st.now, st.l.set i { j with inn := false }⟩, ?_, h.outs h1 h2 hj c3⟩
                rw [if_neg (by rw [← h.now]; exact hdue)]
                simp only [Int.toNat_natCast, h1]; rfl
          · by_cases k6 : c.kind = 6
            · rw [do22_6 hb k6]
              by_cases hz : c.queue = 0
              · rw [if_pos hz]
                exact ⟨st, by rw [stepA_6 hb k6, if_pos hz], h⟩
              · rw [if_neg hz]
                have hmap : (st.l.map fun j => { j with queue := 0 }).map (fun j => (j.at_, j.gen)) = st.l.map fun j => (j.at_, j.gen) := by rw [List.map_map]; rfl
                refine ⟨⟨st.now, st.l.map fun j => { j with queue := 0 }⟩, ?_, ⟨h.mo, h.now, by rw [List.length_map]; exact h.nx, ?_, h.pl, fun i j hj => ?_, fun n g g' hg c1 c2 => ?_, by rw [hmap]; exact h.r3, by simp only [List.length_map]; exact h.r4, by rw [List.length_map]; exact h.r5, h.r6, fun x hx => ?_⟩⟩
                · rw [stepA_6 hb k6, if_neg hz]
                  congr 3
                  unfold qE
                  rw [sortE_len, h.l, inJ_count]
                · rw [inJ_merge 0 st.l h.q, ← h.l]
                · rw [List.getElem?_map] at hj
                  cases hx : st.l[i]? with
                  | none => rw [hx] at hj; cases hj
                  | some x => rw [hx] at hj; cases hj; exact h.r1 i x hx
                · obtain ⟨x, hx, q1, q2⟩ := h.r2 n g g' hg c1 c2
                  exact ⟨{ x with queue := 0 }, List.mem_map.2 ⟨x, hx, rfl⟩, q1, q2⟩
                · obtain ⟨y, _, rfl⟩ := List.mem_map.1 hx
                  exact .inl rfl
            · by_cases k7 : c.kind = 7
              · rw [do22_7 hb k7]
                refine ⟨st, ?_, h⟩
                rw [stepA_7 hb k7]
                congr 3
                unfold qE
                rw [sortE_len, h.l, inJ_count]
              · rw [do22_8 (by omega)]
                exact ⟨st, stepA_8 (by omega), h⟩
end
end Go.Proofs.Ytedofpnjmnkedaa.HL
set_option maxRecDepth 100000
namespace Go.Proofs.Ytedofpnjmnkedaa.HL
open Go.RowKit (Below)
open Go.Proofs
def xor1 (n : Int) : Int := w64 (((BitVec.ofInt 64 n) ^^^ (BitVec.ofInt 64 1)).toNat : Int)
theorem xor1_in (n : Int) : In64 (xor1 n) := w64_range _
section
variable {w0 : World} {F M : Mem} {R : VP}
theorem bq_xor {t : TypeId} {X Y : Operand} (n : Int) : (std PP w0).bq .xor t X Y (.int .i64 n) (.int .i64 1) = some (.int .i64 (xor1 n)) := rfl
def Cmd.ints (c : Cmd) : List Int := [c.kind, c.queue, c.at_, c.gen, c.time, c.data]
def Cmd.ok (c : Cmd) : Prop := ∀ x ∈ c.ints, In64 x
abbrev tX : TypeId := 29
theorem litF {n : Nat} {parts : List (Nat × Value)} (l : List Int) (h24 : n ≤ 16777216) (hc : Instr.fill (fun k => some (k * 1, 1)) ((Array.range (n * 1)).map ((Value.int .i64 0).cells[· % (Value.int .i64 0).cells.size]!)) parts = some (l.map (Value.int .i64)).toArray) (hn : l.length = n) (hw : ∀ n ∈ l, (Lit.int .i64 n).wf = true)
    {P : Asn} (h : Holds w0 F M P) {K : VP} (hK : ∀ M' F' s, Mem.le F F' → Holds w0 F' M' P → RdI w0 F' .i64 s l → K (SV.v s) M') : (std PP w0).bsl 70 n parts K M := by
  refine bsl_e (n := n) Try.underlying70 W.e3 (by omega) hc fun b hb hw2 => ?_
  have h1 := Holds.new h hb hw2 (l.map (Value.int .i64)).toArray.toList 3
  obtain ⟨F3, hle3, hown3, hW3⟩ := Holds.freeze1 h1
  refine hK _ F3 ⟨some ⟨b, 0, none⟩, n, n⟩ hle3 hW3 (RdI.own (o := 0) hown3 hn.symm (Nat.le_refl _) (fun j x hx => ?_) hw (by omega))
  rw [Nat.zero_add]
  simp [hx]
theorem resC {b : Nat} {cs : List Value} {P : Asn} {a0 a1 a2 a3 a4 a5 : Int} (h : Holds w0 F M (star (row1 b cs tCmd) P)) (hcs : cs.length = 6) {K : VP} (hK : ∀ M', Holds w0 F M' P → K (.agg #[.int .i64 a0, .int .i64 a1, .int .i64 a2, .int .i64 a3, .int .i64 a4, .int .i64 a5]) M') :
    (std PP w0).st tCmd ⟨b, 0, none⟩ (.agg #[.int .i64 a0, .int .i64 a1, .int .i64 a2, .int .i64 a3, .int .i64 a4, .int .i64 a5]) (fun M14 => ob ((std PP w0).rdv tCmd (.pointer (some ⟨b, 0, none⟩)) M14) fun v15 => K v15 M14) M := by
  refine st_agg (vs := [.int .i64 a0, .int .i64 a1, .int .i64 a2, .int .i64 a3, .int .i64 a4, .int .i64 a5]) W.g27 h.own1 (by simp [hcs]) (by intro v hv; simp only [List.mem_cons, List.not_mem_nil, or_false] at hv; rcases hv with rfl | rfl | rfl | rfl | rfl | rfl <;> rfl) ?_
  have hP2 := h.upd1 (cs' := over cs 0 [.int .i64 a0, .int .i64 a1, .int .i64 a2, .int .i64 a3, .int .i64 a4, .int .i64 a5]) (e' := tCmd)
  have o2 := hP2.own1
  have ho : over cs 0 [.int .i64 a0, .int .i64 a1, .int .i64 a2, .int .i64 a3, .int .i64 a4, .int .i64 a5] = [.int .i64 a0, .int .i64 a1, .int .i64 a2, .int .i64 a3, .int .i64 a4, .int .i64 a5] := by
    match cs, hcs with
    | [_, _, _, _, _, _], _ => rfl
  rw [ho] at o2
  rw [rdv_ptr, ld_agg (cs := [.int .i64 a0, .int .i64 a1, .int .i64 a2, .int .i64 a3, .int .i64 a4, .int .i64 a5]) W.g27 (fun j v hj => by rw [ho, add_eq, rd_own o2, Nat.zero_add]; exact hj), ob_v]
  exact hK _ hP2.right
theorem ok6 {a0 a1 a2 a3 a4 a5 : Int} (h0 : In64 a0) (h1 : In64 a1) (h2 : In64 a2) (h3 : In64 a3) (h4 : In64 a4) (h5 : In64 a5) : Cmd.ok ⟨a0, a1, a2, a3, a4, a5⟩ := by
  intro x hx
  simp only [Cmd.ints, List.mem_cons, List.not_mem_nil, or_false] at hx
  rcases hx with rfl | rfl | rfl | rfl | rfl | rfl <;> assumption
theorem tmod_in {n m : Int} (h : In64 n) (hm : 0 < m) : In64 (Int.tmod n m) := by
  unfold In64 at h ⊢
  have h1 : (Int.tmod n m).natAbs ≤ n.natAbs := by
    rw [Int.natAbs_tmod]; exact Nat.mod_le _ _
  by_cases h0 : 0 ≤ n
  · have := Int.tmod_nonneg m h0
    omega
  · have := Int.tmod_nonneg m (show 0 ≤ -n by omega)
    rw [Int.neg_tmod] at this
    omega
theorem tmod_small {n m : Int} (h : 0 ≤ n) (hm : 0 < m) : 0 ≤ Int.tmod n m ∧ Int.tmod n m < m := ⟨Int.tmod_nonneg m h, Int.tmod_lt_of_pos n hm⟩
theorem Command_ok {x0 x1 x2 x3 x4 x5 x6 x7 x8 x9 x10 : Int} {s : SV} {tl : List Int} (hx : ∀ n ∈ [x0, x1, x2, x3, x4, x5, x6, x7, x8, x9, x10], In64 n) (ht : RdF w0 M 2 s tl) (hsn : s.n ≤ 1000) (hR : ∀ M' (c : Cmd), Mem.le M M' → c.ok → R c.v M') :
    C PP w0 Id.tk_Command #[.agg #[.int .i64 x0, .int .i64 x1, .int .i64 x2, .int .i64 x3, .int .i64 x4, .int .i64 x5, .int .i64 x6, .int .i64 x7, .int .i64 x8, .int .i64 x9, .int .i64 x10], SV.v s] R M := by
  have i0 : In64 x0 := hx x0 (by simp)
  have i1 : In64 x1 := hx x1 (by simp)
  have i2 : In64 x2 := hx x2 (by simp)
  have i3 : In64 x3 := hx x3 (by simp)
  have i4 : In64 x4 := hx x4 (by simp)
  have i5 : In64 x5 := hx x5 (by simp)
  have i6 : In64 x6 := hx x6 (by simp)
  have i7 : In64 x7 := hx x7 (by simp)
  have i8 : In64 x8 := hx x8 (by simp)
  have i9 : In64 x9 := hx x9 (by simp)
  have i10 : In64 x10 := hx x10 (by simp)
  clear hx
  apply tk_Command.go
  intro pts H
  unfold tk_Command.T
  intro b1 hb0 hbw
  have g1 := Holds.new (Holds.emp0 (w0 := w0) (M := M)) hb0 hbw [.int .i64 x0, .int .i64 x1, .int .i64 x2, .int .i64 x3, .int .i64 x4, .int .i64 x5, .int .i64 x6, .int .i64 x7, .int .i64 x8, .int .i64 x9, .int .i64 x10] tX
  generalize M.set b1 _ = M1 at g1 ⊢
  intro b3 hb3 hbw3
  have g2 := Holds.new g1 hb3 hbw3 [.int .i64 0, .int .i64 0, .int .i64 0, .int .i64 0, .int .i64 0, .int .i64 0] tCmd
  change Holds w0 M (M1.set b3 (.row [.int .i64 0, .int .i64 0, .int .i64 0, .int .i64 0, .int .i64 0, .int .i64 0] tCmd)) (star (row1 b3 zR tCmd) (star (row1 b1 [.int .i64 x0, .int .i64 x1, .int .i64 x2, .int .i64 x3, .int .i64 x4, .int .i64 x5, .int .i64 x6, .int .i64 x7, .int .i64 x8, .int .i64 x9, .int .i64 x10] tX) emp)) at g2
  generalize M1.set b3 _ = M2 at g2 ⊢
  have LX : ∀ {M' : Mem}, Own w0 M' b1 [.int .i64 x0, .int .i64 x1, .int .i64 x2, .int .i64 x3, .int .i64 x4, .int .i64 x5, .int .i64 x6, .int .i64 x7, .int .i64 x8, .int .i64 x9, .int .i64 x10] tX → rd w0 M' ⟨b1, 0, none⟩ = some (.int .i64 x0) ∧ rd w0 M' ⟨b1, 1, none⟩ = some (.int .i64 x1) ∧ rd w0 M' ⟨b1, 2, none⟩ = some (.int .i64 x2) ∧ rd w0 M' ⟨b1, 3, none⟩ = some (.int .i64 x3) ∧ rd w0 M' ⟨b1, 4, none⟩ = some (.int .i64 x4) := fun o =>
    ⟨rd_own (o := 0) o, rd_own (o := 1) o, rd_own (o := 2) o, rd_own (o := 3) o, rd_own (o := 4) o⟩
  have o1 := g2.right.own1
  simp only [ld_one W.c3, add_eq, Nat.zero_add, (LX o1).2.2.1, ob_v, shI_v]
  refine ⟨by trivial, by decide, ?_⟩
  rw [bs_beq]
  split
  · -- as it is
    have ldc : (std PP w0).ld tCmd ⟨b1, 5, none⟩ M2 = some (.agg #[.int .i64 x5, .int .i64 x6, .int .i64 x7, .int .i64 x8, .int .i64 x9, .int .i64 x10]) := ld_agg (cs := [.int .i64 x5, .int .i64 x6, .int .i64 x7, .int .i64 x8, .int .i64 x9, .int .i64 x10]) W.g27 (fun j v hj => by
      rw [add_eq, rd_own o1]
      match j, hj with
      | 0, hj => exact hj
      | 1, hj => exact hj
      | 2, hj => exact hj
      | 3, hj => exact hj
      | 4, hj => exact hj
      | 5, hj => exact hj)
    rw [ldc]
    simp only [ob_v, shA_v, shCons_v, shI_v, shNil_v]
    refine resC g2 rfl fun M3 g3 => ?_
    exact hR M3 ⟨x5, x6, x7, x8, x9, x10⟩ g3.fr (ok6 i5 i6 i7 i8 i9 i10)
  · -- of those that were told
    have keyJ1 : ∀ (M' F' : Mem) (b5 : Nat) (c : Cmd), Mem.le M F' → c.ok → Holds w0 F' M' (star (row1 b5 [.int .i64 c.kind, .int .i64 c.queue, .int .i64 c.at_, .int .i64 c.gen, .int .i64 c.time, .int .i64 c.data] tCmd) (star (row1 b3 zR tCmd) (star (row1 b1 [.int .i64 x0, .int .i64 x1, .int .i64 x2, .int .i64 x3, .int .i64 x4, .int .i64 x5, .int .i64 x6, .int .i64 x7, .int .i64 x8, .int .i64 x9, .int .i64 x10] tX) emp))) →
        tk_Command.J1 pts s ⟨b1, 0, none⟩ ⟨b3, 0, none⟩ ⟨b5, 0, none⟩ M' := by
      intro M' F' b5 c hl hc g
      rw [H.J1]
      unfold tk_Command.J1.T
      have fin : ∀ (M4 : Mem) (c : Cmd), c.ok → Holds w0 F' M4 (star (row1 b5 [.int .i64 c.kind, .int .i64 c.queue, .int .i64 c.at_, .int .i64 c.gen, .int .i64 c.time, .int .i64 c.data] tCmd) (star (row1 b3 zR tCmd) (star (row1 b1 [.int .i64 x0, .int .i64 x1, .int .i64 x2, .int .i64 x3, .int .i64 x4, .int .i64 x5, .int .i64 x6, .int .i64 x7, .int .i64 x8, .int .i64 x9, .int .i64 x10] tX) emp))) →
          (ob ((std PP w0).ld tCmd ⟨b5, 0, none⟩ M4) fun v160 => shA v160 fun l161 => shCons l161 fun u162 r163 => shI .i64 u162 fun n164 => shCons r163 fun u165 r166 => shI .i64 u165 fun n167 => shCons r166 fun u168 r169 => shI .i64 u168 fun n170 => shCons r169 fun u171 r172 => shI .i64 u171 fun n173 => shCons r172 fun u174 r175 => shI .i64 u174 fun n176 => shCons r175 fun u177 r178 => shI .i64 u177 fun n179 => shNil r178
            ((std PP w0).st tCmd ⟨b3, 0, none⟩ (.agg #[.int .i64 n164, .int .i64 n167, .int .i64 n170, .int .i64 n173, .int .i64 n176, .int .i64 n179]) (fun M180 => ob ((std PP w0).rdv tCmd (.pointer (some ⟨b3, 0, none⟩)) M180) fun v181 => R v181 M180) M4)) := by
        intro M4 c hc g
        have o5 := g.own1
        rw [ld_agg (cs := c.cells) W.g27 (fun j v hj => by rw [add_eq, rd_own o5, Nat.zero_add]; exact hj)]
        unfold Cmd.cells
        simp only [ob_v, shA_v, shCons_v, shI_v, shNil_v]
        refine resC g.rot rfl fun M5 g5 => ?_
        exact hR M5 c (Mem.le_trans hl g5.fr) hc
      rw [bs_decide]
      split
      · rename_i hpos
        simp only [ld_one W.c3, add_eq, Nat.zero_add, (LX g.right.right.own1).2.2.1, ob_v, shI_v]
        rw [w64_in (by omega)]
        refine Within_ok i2 (by omega) (by omega) (by omega) (by omega) fun y y1 y2 => ?_
        rw [shI_v]
        have hyn : y.toNat < s.n := by omega
        obtain ⟨u, hu, iu⟩ := ht.get hyn (f := 0) (by decide)
        obtain ⟨v, hv, iv⟩ := ht.get hyn (f := 1) (by decide)
        refine rdfA (cs := [u, v]) W.g25 ht (Mem.le_trans hl g.fr) y.toNat (by omega) hyn (by show 0 < 2; decide) (fun f x hf => ?_) ?_
        · match f, hf with
          | 0, hf => simp at hf; subst hf; exact hu
          | 1, hf => simp at hf; subst hf; exact hv
        · simp only [List.map_cons, List.map_nil, shA_v, shCons_v, shI_v, shNil_v]
          refine st_agg (vs := [.int .i64 u, .int .i64 v]) W.g25 g.own1 (by simp) (by intro v hv; simp only [List.mem_cons, List.not_mem_nil, or_false] at hv; rcases hv with rfl | rfl <;> rfl) ?_
          have g3 := g.upd1 (cs' := over [.int .i64 c.kind, .int .i64 c.queue, .int .i64 c.at_, .int .i64 c.gen, .int .i64 c.time, .int .i64 c.data] 2 [.int .i64 u, .int .i64 v]) (e' := tCmd)
          refine fin _ ⟨c.kind, c.queue, u, v, c.time, c.data⟩ (ok6 (hc _ (by simp [Cmd.ints])) (hc _ (by simp [Cmd.ints])) iu iv (hc _ (by simp [Cmd.ints])) (hc _ (by simp [Cmd.ints]))) ?_
          exact g3
      · exact fin M' c hc g
    have tail : ∀ (M' F' : Mem) (b5 : Nat) (k q : Int), Mem.le M F' → In64 k → In64 q → Holds w0 F' M' (star (row1 b5 zR tCmd) (star (row1 b3 zR tCmd) (star (row1 b1 [.int .i64 x0, .int .i64 x1, .int .i64 x2, .int .i64 x3, .int .i64 x4, .int .i64 x5, .int .i64 x6, .int .i64 x7, .int .i64 x8, .int .i64 x9, .int .i64 x10] tX) emp))) →
        (std PP w0).st tCmd ⟨b5, 0, none⟩ (.agg #[.int .i64 k, .int .i64 q, .int .i64 0, .int .i64 0, .int .i64 x4, .int .i64 x3]) (fun M71 => ob (rd w0 M71 ⟨b1, 3, none⟩) fun v72 => shI .i64 v72 fun n73 => (True ∧ (4 : Int) ≠ 0 ∧ bs (((Int.tmod n73 4) != 0)) (ob (rd w0 M71 ⟨b5, 4, none⟩) fun v74 => shI .i64 v74 fun n75 => (True ∧ (30 : Int) ≠ 0 ∧ (std PP w0).st 2 ⟨b5, 4, none⟩ (.int .i64 (Int.tmod n75 30)) (fun M76 => tk_Command.J1 pts s ⟨b1, 0, none⟩ ⟨b3, 0, none⟩ ⟨b5, 0, none⟩ M76) M71)) (tk_Command.J1 pts s ⟨b1, 0, none⟩ ⟨b3, 0, none⟩ ⟨b5, 0, none⟩ M71))) M' := by
      intro M' F' b5 k q hl hk hq g
      refine st_agg (vs := [.int .i64 k, .int .i64 q, .int .i64 0, .int .i64 0, .int .i64 x4, .int .i64 x3]) W.g27 g.own1 (by simp) (by intro v hv; simp only [List.mem_cons, List.not_mem_nil, or_false] at hv; rcases hv with rfl | rfl | rfl | rfl | rfl | rfl <;> rfl) ?_
      have g3 : Holds w0 F' (M'.set b5 (.row (over zR 0 [.int .i64 k, .int .i64 q, .int .i64 0, .int .i64 0, .int .i64 x4, .int .i64 x3]) tCmd)) (star (row1 b5 [.int .i64 k, .int .i64 q, .int .i64 0, .int .i64 0, .int .i64 x4, .int .i64 x3] tCmd) _) := g.upd1 (cs' := over zR 0 [.int .i64 k, .int .i64 q, .int .i64 0, .int .i64 0, .int .i64 x4, .int .i64 x3]) (e' := tCmd)
      generalize M'.set b5 _ = M3 at g3 ⊢
      have e4 : rd w0 M3 ⟨b5, 4, none⟩ = some (.int .i64 x4) := rd_own (o := 4) g3.own1
      simp only [(LX g3.right.right.own1).2.2.2.1, e4, ob_v, shI_v]
      refine ⟨by trivial, by decide, ?_⟩
      have z64 : In64 0 := by unfold In64; omega
      rw [bs_bne]
      split
      · exact keyJ1 M3 F' b5 ⟨k, q, 0, 0, x4, x3⟩ hl (ok6 hk hq z64 z64 i4 i3) g3
      · refine ⟨by trivial, by decide, ?_⟩
        refine st_one W.c2 g3.own1 (by simp) rfl rfl ?_
        have g4 := g3.upd1 (cs' := [.int .i64 k, .int .i64 q, .int .i64 0, .int .i64 0, .int .i64 (Int.tmod x4 30), .int .i64 x3]) (e' := tCmd)
        exact keyJ1 _ F' b5 ⟨k, q, 0, 0, Int.tmod x4 30, x3⟩ hl (ok6 hk hq z64 z64 (tmod_in i4 (by decide)) i3) g4
    have hbC : ∀ k q : Int, (std PP w0).bld tCmd [(0, .int .i64 k), (1, .int .i64 q), (4, .int .i64 x3), (3, .int .i64 x4)] = some (.agg #[.int .i64 k, .int .i64 q, .int .i64 0, .int .i64 0, .int .i64 x4, .int .i64 x3]) := fun k q => by kernel_rfl
    refine litF [1, 1, 1, 2, 3, 4, 5, 5, 5, 6, 7] (by decide) (by kernel_rfl) rfl (wf_all (by intro x hx; simp at hx; unfold In64; omega)) g2 fun M3 F3 s31 l3 g3 hk => ?_
    rw [shS_sv]
    have p1 := g3.right.own1
    have kin : ∀ y : Int, 0 ≤ y → ∃ k, In64 k ∧ ([1, 1, 1, 2, 3, 4, 5, 5, 5, 6, 7] : List Int)[(Int.tmod y 11).toNat]? = some k := fun y hy => by
      obtain ⟨t0, t1⟩ := tmod_small hy (show (0 : Int) < 11 by decide)
      have hlt : (Int.tmod y 11).toNat < ([1, 1, 1, 2, 3, 4, 5, 5, 5, 6, 7] : List Int).length := by simp only [List.length_cons, List.length_nil]; omega
      refine ⟨_, ?_, List.getElem?_eq_getElem hlt⟩
      have := List.getElem_mem hlt
      generalize ([1, 1, 1, 2, 3, 4, 5, 5, 5, 6, 7] : List Int)[(Int.tmod y 11).toNat] = k at this
      simp at this
      unfold In64; omega
    have rdk : ∀ {M' F' : Mem} {y k : Int} {P : Asn}, 0 ≤ y → Mem.le F3 F' → Holds w0 F' M' P → ([1, 1, 1, 2, 3, 4, 5, 5, 5, 6, 7] : List Int)[(Int.tmod y 11).toNat]? = some k → ∃ a, s31.a = some a ∧ ∀ M2, Mem.le F' M2 → rd w0 M2 (a.add ((Int.tmod y 11).toNat * 1)) = some (.int .i64 k) := fun {M' F' y k P} hy hl g hk2 => by
      have hlt := (List.getElem?_eq_some_iff.1 hk2).1
      obtain ⟨a, ha, hr⟩ := hk.at hlt
      refine ⟨a, ha, fun M2 hM2 => ?_⟩
      have := hr M2 (Mem.le_trans hl hM2)
      rw [Nat.mul_one, this]
      rw [List.getElem?_eq_getElem hlt] at hk2
      rw [Option.some.inj hk2]
    have hsl : s31.n = 11 := hk.len
    simp only [ld_one W.c3, ld_one W.c2, add_eq, Nat.zero_add, (LX p1).1, (LX p1).2.1, (LX p1).2.2.2.1, (LX p1).2.2.2.2, ob_v, shI_v]
    have hq2 : ∀ y : Int, 0 ≤ y → In64 (Int.tmod y 2) := fun y hy => by
      obtain ⟨t0, t1⟩ := tmod_small hy (show (0 : Int) < 2 by decide)
      unfold In64; omega
    have hMF : Mem.le M F3 := l3
    refine ⟨?_, ?_⟩
    · refine Within_ok i0 (by omega) (by omega) (by omega) (by omega) fun y y1 y2 => ?_
      rw [shI_v]
      refine ⟨by trivial, by decide, ?_⟩
      obtain ⟨k, ik, hkk⟩ := kin y y1
      obtain ⟨a, ha, hra⟩ := rdk y1 (Mem.le_refl _) g3 hkk
      obtain ⟨t0, t1⟩ := tmod_small y1 (show (0 : Int) < 11 by decide)
      simp only [ha, nc_v, hra M3 g3.fr, ob_v, shI_v]
      refine ⟨⟨t0, by omega⟩, (LX p1).2.1, (LX p1).2.2.2.1, (LX p1).2.2.2.2, ?_, ?_⟩
      · refine Within_ok i1 (by omega) (by omega) (by omega) (by omega) fun z z1 z2 => ?_
        rw [shI_v]
        refine ⟨by trivial, by decide, ?_⟩
        rw [hbC]
        simp only [ob_v, shA_v, shCons_v, shI_v, shNil_v]
        refine ⟨hra M3 g3.fr, (LX p1).2.2.2.1, (LX p1).2.2.2.2, ?_⟩
        intro b5 hb5 hbw5
        have g4 := Holds.new g3 hb5 hbw5 zR tCmd
        change Holds w0 F3 (M3.set b5 (.row [.int .i64 0, .int .i64 0, .int .i64 0, .int .i64 0, .int .i64 0, .int .i64 0] tCmd)) _ at g4
        generalize M3.set b5 _ = M4 at g4 ⊢
        have q1 := g4.right.right.own1
        refine ⟨hra M4 g4.fr, (LX q1).2.2.2.1, (LX q1).2.2.2.2, ?_⟩
        exact tail M4 F3 b5 k _ hMF ik (hq2 z z1) g4
      · intro b5 hb5 hbw5
        have g4 := Holds.new g3 hb5 hbw5 zR tCmd
        change Holds w0 F3 (M3.set b5 (.row [.int .i64 0, .int .i64 0, .int .i64 0, .int .i64 0, .int .i64 0, .int .i64 0] tCmd)) _ at g4
        generalize M3.set b5 _ = M4 at g4 ⊢
        have q1 := g4.right.right.own1
        refine ⟨hra M4 g4.fr, (LX q1).2.1, (LX q1).2.2.2.1, (LX q1).2.2.2.2, ?_⟩
        refine Within_ok i1 (by omega) (by omega) (by omega) (by omega) fun z z1 z2 => ?_
        rw [shI_v]
        refine ⟨by trivial, by decide, ?_⟩
        rw [hbC]
        simp only [ob_v, shA_v, shCons_v, shI_v, shNil_v]
        refine ⟨hra M4 g4.fr, (LX q1).2.2.2.1, (LX q1).2.2.2.2, ?_⟩
        exact tail M4 F3 b5 k _ hMF ik (hq2 z z1) g4
    · intro b5 hb5 hbw5
      have g4 := Holds.new g3 hb5 hbw5 zR tCmd
      change Holds w0 F3 (M3.set b5 (.row [.int .i64 0, .int .i64 0, .int .i64 0, .int .i64 0, .int .i64 0, .int .i64 0] tCmd)) _ at g4
      generalize M3.set b5 _ = M4 at g4 ⊢
      have q1 := g4.right.right.own1
      refine ⟨(LX q1).1, (LX q1).2.1, (LX q1).2.2.2.1, (LX q1).2.2.2.2, ?_⟩
      refine Within_ok i0 (by omega) (by omega) (by omega) (by omega) fun y y1 y2 => ?_
      rw [shI_v]
      refine ⟨by trivial, by decide, ?_⟩
      obtain ⟨k, ik, hkk⟩ := kin y y1
      obtain ⟨a, ha, hra⟩ := rdk y1 (Mem.le_refl _) g4 hkk
      obtain ⟨t0, t1⟩ := tmod_small y1 (show (0 : Int) < 11 by decide)
      simp only [ha, nc_v, hra M4 g4.fr, ob_v, shI_v]
      refine ⟨⟨t0, by omega⟩, (LX q1).2.1, (LX q1).2.2.2.1, (LX q1).2.2.2.2, ?_⟩
      refine Within_ok i1 (by omega) (by omega) (by omega) (by omega) fun z z1 z2 => ?_
      rw [shI_v]
      refine ⟨by trivial, by decide, ?_⟩
      rw [hbC]
      simp only [ob_v, shA_v, shCons_v, shI_v, shNil_v]
      refine ⟨hra M4 g4.fr, (LX q1).2.2.2.1, (LX q1).2.2.2.2, ?_⟩
      exact tail M4 F3 b5 k _ hMF ik (hq2 z z1) g4
end
end Go.Proofs.Ytedofpnjmnkedaa.HL
namespace Go.Proofs.Ytedofpnjmnkedaa.HL
open Go.RowKit (Below)
open Go.Proofs
def Rep.ints (r : Rep) : List Int := [r.why, r.at_, r.gen, r.time, r.data, r.n]
def Rep.ok (r : Rep) : Prop := ∀ x ∈ r.ints, In64 x
def Evt.ok (e : Evt) : Prop := ∀ x ∈ e.ints, In64 x
structure JbOk (j : Jb) : Prop where
  k : In64 j.key
  d : In64 j.data
  a : In64 j.at_
  g : In64 j.gen
structure KOk (d : D22) : Prop where
  now : In64 d.now
  l : ∀ j ∈ d.l, JbOk j
theorem z64 : In64 0 := by unfold In64; omega
theorem rep6 {a0 a1 a2 a3 a4 a5 : Int} (h0 : In64 a0) (h1 : In64 a1) (h2 : In64 a2) (h3 : In64 a3) (h4 : In64 a4) (h5 : In64 a5) : Rep.ok ⟨a0, a1, a2, a3, a4, a5⟩ := by
  intro x hx
  simp only [Rep.ints, List.mem_cons, List.not_mem_nil, or_false] at hx
  rcases hx with rfl | rfl | rfl | rfl | rfl | rfl <;> assumption
theorem rep1 {w : Int} (h : In64 w) : Rep.ok { why := w } := rep6 h z64 z64 z64 z64 z64
theorem ev14 {c : Cmd} {r : Rep} {n s : Int} (hc : c.ok) (hr : r.ok) (hn : In64 n) (hs : In64 s) : Evt.ok ⟨c, r, n, s⟩ := by
  intro x hx
  have : x ∈ c.ints ++ (r.ints ++ [n, s]) := hx
  rcases List.mem_append.1 this with h | h
  · exact hc x h
  · rcases List.mem_append.1 h with h | h
    · exact hr x h
    · simp at h; rcases h with rfl | rfl <;> assumption
theorem KOk.new (n : Int) : KOk (D22.new n) := ⟨z64, fun j hj => (by cases hj)⟩
theorem KOk.out {d : D22} (h : KOk d) (k : Nat) : KOk (d.out k) := by
  unfold D22.out
  cases hk : d.l[k]? with
  | none => exact h
  | some j => exact ⟨h.now, fun x hx => h.l x (List.mem_of_mem_eraseIdx hx)⟩
theorem do22_in {jobs : Int} {d : D22} {st : St} (hr : RelD jobs d st) (hj : jobs ≤ 100) (hl : st.l.length ≤ 1000) (h : KOk d) {c : Cmd} (hc : c.ok) : (do22 d c).2.ok ∧ KOk (do22 d c).1 := by
  have hok := hr.ok hj hl
  have ct : In64 c.time := hc _ (by simp [Cmd.ints])
  have cd : In64 c.data := hc _ (by simp [Cmd.ints])
  have s64 : ∀ n : Int, 0 ≤ n → n ≤ 100000000 → In64 n := fun n h1 h2 => by unfold In64; omega
  have h4 := hr.r4
  have h6 := hr.r6
  have hcount : ∀ q, In64 ((countD q d.l : Nat) : Int) := fun q => by
    have : countD q d.l ≤ d.l.length := List.countP_le_length
    exact s64 _ (by omega) (by omega)
  by_cases hb : badQ c
  · rw [do22_bad hb]; exact ⟨rep1 (s64 _ (by decide) (by decide)), h⟩
  · by_cases k1 : c.kind = 1
    · rw [do22_1 hb k1]
      cases ha : d.pool.at_ with
      | none => exact ⟨rep1 (s64 _ (by decide) (by decide)), h⟩
      | some a =>
        obtain ⟨a1, a2, a3, a4⟩ := hok.pl.take_lt ha
        have hgl : d.pool.grow.gens.length ≤ d.pool.gens.length + 1 := by
          unfold Pl.grow
          split <;> simp
        have hg : 0 ≤ d.pool.gen a ∧ d.pool.gen a ≤ 1000001 := by
          unfold Pl.gen
          rw [List.getD_eq_getElem?_getD, List.getElem?_eq_getElem a1]
          simp only [Option.getD_some]
          have hm := List.getElem_mem a1
          generalize d.pool.grow.gens[a] = g at hm
          have : 0 ≤ g ∧ g ≤ 1000000 := by
            unfold Pl.grow at hm
            split at hm
            · exact hok.gv g hm
            · simp only at hm
              rcases List.mem_append.1 hm with hm | hm
              · exact hok.gv g hm
              · simp at hm; omega
          omega
        have ia : In64 (a : Int) := s64 _ (by omega) (by omega)
        have ig : In64 (d.pool.gen a) := s64 _ (by omega) (by omega)
        refine ⟨rep6 z64 ia ig ct cd z64, h.now, fun j hj => ?_⟩
        rcases List.mem_append.1 hj with hj | hj
        · exact h.l j hj
        · simp at hj; subst hj
          exact ⟨ct, cd, ia, ig⟩
    · by_cases k2 : c.kind = 2 ∨ c.kind = 3
      · rw [do22_23 k2]
        have hlook : In64 (d.pool.look c.at_ c.gen) := by
          unfold Pl.look
          split
          · exact s64 _ (by decide) (by decide)
          · split
            · exact s64 _ (by decide) (by decide)
            · exact z64
        split
        · exact ⟨rep1 hlook, h⟩
        · split
          · exact ⟨rep1 z64, h⟩
          · split
            · exact ⟨rep1 z64, h⟩
            · rename_i j hjj
              have jo := h.l j (List.mem_of_getElem? hjj)
              split
              · exact ⟨rep6 z64 z64 z64 jo.k jo.d z64, h.out _⟩
              · split
                · exact ⟨rep1 (s64 _ (by decide) (by decide)), h⟩
                · refine ⟨rep6 z64 z64 z64 ct jo.d z64, h.now, fun x hx => ?_⟩
                  rcases List.mem_or_eq_of_mem_set hx with hx | rfl
                  · exact h.l x hx
                  · exact ⟨ct, jo.d, jo.a, jo.g⟩
      · by_cases k4 : c.kind = 4
        · rw [do22_4 k4]
          split
          · exact ⟨rep1 (s64 _ (by decide) (by decide)), h⟩
          · exact ⟨rep6 z64 z64 z64 addc_in z64 z64, addc_in, h.l⟩
        · by_cases k5 : c.kind = 5
          · rw [do22_5 hb k5]
            split
            · exact ⟨rep1 (s64 _ (by decide) (by decide)), h⟩
            · split
              · exact ⟨rep1 (s64 _ (by decide) (by decide)), h⟩
              · split
                · exact ⟨rep1 z64, h⟩
                · rename_i j hjj
                  have jo := h.l j (List.mem_of_getElem? hjj)
                  exact ⟨rep6 z64 jo.a jo.g jo.k jo.d z64, h.out _⟩
          · by_cases k6 : c.kind = 6
            · rw [do22_6 hb k6]
              split
              · exact ⟨rep1 (s64 _ (by decide) (by decide)), h⟩
              · refine ⟨rep6 z64 z64 z64 z64 z64 (hcount _), h.now, fun x hx => ?_⟩
                obtain ⟨y, hy, rfl⟩ := List.mem_map.1 hx
                have jo := h.l y hy
                split
                · exact ⟨jo.k, jo.d, jo.a, jo.g⟩
                · exact jo
            · by_cases k7 : c.kind = 7
              · rw [do22_7 hb k7]
                exact ⟨rep6 z64 z64 z64 z64 z64 (hcount _), h⟩
              · rw [do22_8 (by omega)]
                exact ⟨rep1 (s64 _ (by decide) (by decide)), h⟩
def Fine (jobs : Int) : St → List Evt → St → Prop
  | st, [], st' => st = st'
  | st, e :: es, st' => ∃ st1, stepA jobs st e.c e.r = some (st1, e.r) ∧ e.now = st1.now ∧ 0 ≤ e.steps ∧ e.steps ≤ 90 ∧ Fine jobs st1 es st'
theorem Fine.app {jobs : Int} : ∀ {es fs : List Evt} {st st1 st2 : St}, Fine jobs st es st1 → Fine jobs st1 fs st2 → Fine jobs st (es ++ fs) st2
  | [], fs, st, st1, st2, h, g => by
    have : st = st1 := h
    rw [this]; exact g
  | e :: es, fs, st, st1, st2, h, g => by
    obtain ⟨s, h1, h2, h3, h4, h5⟩ := h
    exact ⟨s, h1, h2, h3, h4, h5.app g⟩
theorem Fine.whyA {jobs bud : Int} (hb : 90 ≤ bud) {st st1 : St} {e : Evt} (h1 : stepA jobs st e.c e.r = some (st1, e.r)) (h2 : e.now = st1.now) (h3 : 0 ≤ e.steps) (h4 : e.steps ≤ 90) : whyA jobs bud st e = (0, st1) := by
  rw [whyA_some h1, if_neg (by simp), if_neg (by simp [h2]), if_neg (by omega)]
theorem Fine.ckA {jobs bud : Int} (hb : 90 ≤ bud) : ∀ {es : List Evt} {st st' : St} {i : Int}, Fine jobs st es st' → ckA jobs bud i st es = (-1, 0, st')
  | [], st, st', i, h => by
    have : st = st' := h
    rw [this]; rfl
  | e :: es, st, st', i, h => by
    obtain ⟨s, h1, h2, h3, h4, h5⟩ := h
    have hw := Fine.whyA hb h1 h2 h3 h4
    rw [ckA_cons0 (by rw [hw]), hw]
    exact Fine.ckA hb h5
section
variable {w0 : World} {F M : Mem} {R : VP}
def EvC (e : Evt) : List Value := [.int .i64 e.c.kind, .int .i64 e.c.queue, .int .i64 e.c.at_, .int .i64 e.c.gen, .int .i64 e.c.time, .int .i64 e.c.data, .int .i64 e.r.why, .int .i64 e.r.at_, .int .i64 e.r.gen, .int .i64 e.r.time, .int .i64 e.r.data, .int .i64 e.r.n, .int .i64 e.now, .int .i64 e.steps]
theorem EvC_one (e : Evt) : ∀ v ∈ EvC e, onecell v = true := by
  intro v hv
  have : EvC e = vI e.ints := rfl
  rw [this] at hv
  exact vI_one _ v hv
theorem evI_snoc (l : List Evt) (e : Evt) : vI (evI l) ++ EvC e = vI (evI (l ++ [e])) := by
  rw [evI_app]
  unfold vI
  rw [List.map_append]
  rw [show (evI [e]).map (Value.int .i64) = EvC e from rfl]
theorem newEv {P : Asn} (h : Holds w0 F M P) (e : Evt) {K : VP} (hK : ∀ M' s', Mem.le M M' → Holds w0 F M' (star (SlKA 14 s' (EvC e)) P) → K s'.v M') :
    (std PP w0).bsl 37 1 [(0, .agg #[.int .i64 e.c.kind, .int .i64 e.c.queue, .int .i64 e.c.at_, .int .i64 e.c.gen, .int .i64 e.c.time, .int .i64 e.c.data, .int .i64 e.r.why, .int .i64 e.r.at_, .int .i64 e.r.gen, .int .i64 e.r.time, .int .i64 e.r.data, .int .i64 e.r.n, .int .i64 e.now, .int .i64 e.steps])] K M := by
  refine bsl_e (n := 1) (cells := #[.int .i64 e.c.kind, .int .i64 e.c.queue, .int .i64 e.c.at_, .int .i64 e.c.gen, .int .i64 e.c.time, .int .i64 e.c.data, .int .i64 e.r.why, .int .i64 e.r.at_, .int .i64 e.r.gen, .int .i64 e.r.time, .int .i64 e.r.data, .int .i64 e.r.n, .int .i64 e.now, .int .i64 e.steps]) Try.underlying37 W.e34 (by decide) (by kernel_rfl) fun b hb hw => ?_
  have l1 : Mem.le M (M.set b (.row (#[.int .i64 e.c.kind, .int .i64 e.c.queue, .int .i64 e.c.at_, .int .i64 e.c.gen, .int .i64 e.c.time, .int .i64 e.c.data, .int .i64 e.r.why, .int .i64 e.r.at_, .int .i64 e.r.gen, .int .i64 e.r.time, .int .i64 e.r.data, .int .i64 e.r.n, .int .i64 e.now, .int .i64 e.steps] : Array Value).toList tEv)) := Mem.le_set _ hb
  exact hK _ ⟨some ⟨b, 0, none⟩, 1, 1⟩ l1 (Holds.newSlk h l1 (SlK.new (n := 1) hb (Own.new hw) rfl))
structure DrawAt (w0 : World) (M : Mem) (s : SV) (i : Nat) (g : Nat → Int) : Prop where
  a : ∃ a, s.a = some a ∧ ∀ M2, Mem.le M M2 → ∀ f, f < 27 → rd w0 M2 (a.add (i * 27 + f)) = some (.int .i64 (g f))
  w : ∀ f, f < 27 → In64 (g f)
theorem RdF.draw {s : SV} {l : List Int} (h : RdF w0 M 27 s l) {i : Nat} (hi : i < s.n) : DrawAt w0 M s i fun f => l.getD (i * 27 + f) 0 := by
  have g : ∀ f, f < 27 → l[i * 27 + f]? = some (l.getD (i * 27 + f) 0) := fun f hf => by
    obtain ⟨x, hx, _⟩ := h.get hi hf
    rw [List.getD_eq_getElem?_getD, hx]; rfl
  obtain ⟨a, ha, _⟩ := h.cell _ _ (g 0 (by decide))
  refine ⟨⟨a, ha, fun M2 hM2 f hf => ?_⟩, fun f hf => ?_⟩
  · obtain ⟨a', ha', hr⟩ := h.cell _ _ (g f hf)
    rw [ha] at ha'; cases ha'
    exact hr M2 hM2
  · obtain ⟨x, hx, hin⟩ := h.get hi hf
    have := g f hf
    rw [hx] at this
    rw [← Option.some.inj this]; exact hin
end
end Go.Proofs.Ytedofpnjmnkedaa.HL
set_option maxHeartbeats 1000000
namespace Go.Proofs.Ytedofpnjmnkedaa.HL
open Go.RowKit (Below)
open Go.Proofs
section
variable {w0 : World} {F M : Mem} {R : VP}
theorem bEv (c : Cmd) (r : Rep) (n s : Int) : (std PP w0).bld tEv [(0, .agg #[.int .i64 c.kind, .int .i64 c.queue, .int .i64 c.at_, .int .i64 c.gen, .int .i64 c.time, .int .i64 c.data]), (1, .agg #[.int .i64 r.why, .int .i64 r.at_, .int .i64 r.gen, .int .i64 r.time, .int .i64 r.data, .int .i64 r.n]), (2, .int .i64 n), (3, .int .i64 s)] = some (.agg #[.int .i64 c.kind, .int .i64 c.queue, .int .i64 c.at_, .int .i64 c.gen, .int .i64 c.time, .int .i64 c.data, .int .i64 r.why, .int .i64 r.at_, .int .i64 r.gen, .int .i64 r.time, .int .i64 r.data, .int .i64 r.n, .int .i64 n, .int .i64 s]) := by kernel_rfl
theorem made_ok {n most : Int} {s : SV} {tame : Prop} (hn1 : 1 ≤ n) (hn2 : n ≤ 20) (hm : most ≤ 50) (hs : ∀ i, i < s.n → ∃ g, DrawAt w0 M s i g ∧ (tame → g 11 = 0))
    (hR : ∀ M' o evs, Mem.le M M' → RdF w0 M' 14 o (evI evs) → evs.length ≤ 50 → (tame → ∃ st', Fine n ⟨0, []⟩ evs st') → R (SV.v o) M') :
    C PP w0 Id.wJ_made #[.int .i64 n, SV.v s, .int .i64 most] R M := by
  apply wJ_made.go
  intro pts H
  unfold wJ_made.T
  refine dNew_ok (Holds.emp0 (w0 := w0) (M := M)) (by omega) (by omega) fun M1 d g1 => ?_
  rw [shP_v]
  have endR : ∀ (M' : Mem) (out told : SV) (evs : List Evt) (tl : List Int) (x : D22) (st : St), (∀ e ∈ evs, e.ok) → evs.length ≤ 50 → (tame → Fine n ⟨0, []⟩ evs st) →
      Holds w0 M M' (star (DispA d x) (star (SlKA 14 out (vI (evI evs))) (star (SlKA 2 told (vI tl)) emp))) → R (SV.v out) M' := by
    intro M' out told evs tl x st hok hlen hf g
    refine hR M' out evs g.fr ?_ hlen (fun ht => ⟨st, hf ht⟩)
    refine Holds.rdF (by decide) g.right (fun y hy => ?_) ?_
    · obtain ⟨e, he, hye⟩ := List.mem_flatMap.1 hy
      exact wf64 (hok e he y hye)
    · have := (slkCells g.right).2.1
      unfold vI at this
      rw [List.length_map, evI_len] at this
      omega
  have key : ∀ (k i : Nat) (M' : Mem) (out told : SV) (evs : List Evt) (tl : List Int) (x : D22) (st : St), s.n < i + k ∨ most < ((i + k : Nat) : Int) → i ≤ 50 → evs.length = i → st.l.length ≤ i → told.n ≤ i → (∀ e ∈ evs, e.ok) → (∀ y ∈ tl, In64 y) → RelD n x st → KOk x → (tame → Fine n ⟨0, []⟩ evs st) →
      Holds w0 M M' (star (DispA d x) (star (SlKA 14 out (vI (evI evs))) (star (SlKA 2 told (vI tl)) emp))) → (k ≠ 0) → wJ_made.L1 pts k s most (some ⟨d, 0, none⟩) out told (i : Int) M' := by
    intro k
    induction k with
    | zero => intro i M' out told evs tl x st _ _ _ _ _ _ _ _ _ _ _ hk; exact absurd rfl hk
    | succ k ih =>
      intro i M' out told evs tl x st hk hi50 hel hsl htn hok htok hrel hkok hfine g _
      rw [H.L1]
      unfold wJ_made.L1.T
      rw [bs_decide]
      split
      · rename_i hin
        rw [bs_decide]
        split
        · rename_i him
          rw [H.J2]
          unfold wJ_made.J2.T
          obtain ⟨gd, hd, htm⟩ := hs i (by omega)
          obtain ⟨a, ha, hra⟩ := hd.a
          have hw := hd.w
          have hbd : 0 ≤ (i : Int) ∧ (i : Int) < ((s.n : Nat) : Int) := ⟨by omega, by omega⟩
          have ldD : (std PP w0).ld tX (a.add (i * 27)) M' = some (.agg #[.int .i64 (gd 0), .int .i64 (gd 1), .int .i64 (gd 2), .int .i64 (gd 3), .int .i64 (gd 4), .int .i64 (gd 5), .int .i64 (gd 6), .int .i64 (gd 7), .int .i64 (gd 8), .int .i64 (gd 9), .int .i64 (gd 10)]) := ld_agg (cs := [.int .i64 (gd 0), .int .i64 (gd 1), .int .i64 (gd 2), .int .i64 (gd 3), .int .i64 (gd 4), .int .i64 (gd 5), .int .i64 (gd 6), .int .i64 (gd 7), .int .i64 (gd 8), .int .i64 (gd 9), .int .i64 (gd 10)]) W.g29 (fun j v hj => by
            rw [add_add]
            match j, hj with
            | 0, hj => cases hj; exact hra M' g.fr 0 (by decide)
            | 1, hj => cases hj; exact hra M' g.fr 1 (by decide)
            | 2, hj => cases hj; exact hra M' g.fr 2 (by decide)
            | 3, hj => cases hj; exact hra M' g.fr 3 (by decide)
            | 4, hj => cases hj; exact hra M' g.fr 4 (by decide)
            | 5, hj => cases hj; exact hra M' g.fr 5 (by decide)
            | 6, hj => cases hj; exact hra M' g.fr 6 (by decide)
            | 7, hj => cases hj; exact hra M' g.fr 7 (by decide)
            | 8, hj => cases hj; exact hra M' g.fr 8 (by decide)
            | 9, hj => cases hj; exact hra M' g.fr 9 (by decide)
            | 10, hj => cases hj; exact hra M' g.fr 10 (by decide))
          simp only [ha, nc_v, Int.toNat_natCast, ldD, ob_v, shA_v, shCons_v, shI_v, shNil_v]
          refine ⟨hbd, ?_⟩
          have htr : RdF w0 M' 2 told tl := Holds.rdF (by decide) g.right.right (wf_all htok) (by omega)
          refine Command_ok (fun y hy => ?_) htr (by omega) fun M2 c l2 hc => ?_
          · simp only [List.mem_cons, List.not_mem_nil, or_false] at hy
            rcases hy with rfl | rfl | rfl | rfl | rfl | rfl | rfl | rfl | rfl | rfl | rfl <;> exact hw _ (by decide)
          have g2 := g.le l2
          unfold Cmd.v
          simp only [shA_v, shCons_v, shI_v, shNil_v]
          intro b62 hb62 hbw62
          have g3 := Holds.new g2 hb62 hbw62 zR tCmd
          change Holds w0 M (M2.set b62 (.row [.int .i64 0, .int .i64 0, .int .i64 0, .int .i64 0, .int .i64 0, .int .i64 0] tCmd)) (star (row1 b62 zR tCmd) _) at g3
          generalize M2.set b62 _ = M3 at g3 ⊢
          refine st_agg (vs := c.cells) W.g27 g3.own1 (by simp [Cmd.cells]) (by intro v hv; simp only [Cmd.cells, List.mem_cons, List.not_mem_nil, or_false] at hv; rcases hv with rfl | rfl | rfl | rfl | rfl | rfl <;> rfl) ?_
          have g4 := g3.upd1 (cs' := over zR 0 c.cells) (e' := tCmd)
          rw [show over zR 0 c.cells = c.cells from rfl] at g4 ⊢
          generalize M3.set b62 _ = M4 at g4 ⊢
          have LC : ∀ {M' : Mem}, Own w0 M' b62 c.cells tCmd → (std PP w0).ld tCmd ⟨b62, 0, none⟩ M' = some (.agg #[.int .i64 c.kind, .int .i64 c.queue, .int .i64 c.at_, .int .i64 c.gen, .int .i64 c.time, .int .i64 c.data]) := fun o => ld_agg (cs := c.cells) W.g27 (fun j v hj => by rw [add_eq, rd_own o, Nat.zero_add]; exact hj)
          rw [LC g4.own1]
          simp only [ob_v, shA_v, shCons_v, shI_v, shNil_v]
          have hdok := hrel.ok (by omega) (by omega)
          obtain ⟨st', hstep, hrel'⟩ := hrel.step (c := c)
          obtain ⟨hrok, hkok'⟩ := do22_in hrel (by omega) (by omega) hkok hc
          refine dDo_ok (c := c) g4.rot hdok hkok.now (hc _ (by simp [Cmd.ints])) fun M5 g5 => ?_
          have hsl' := stepA_len hstep
          generalize (do22 x c).2 = r at hstep hrok ⊢
          generalize (do22 x c).1 = x' at hrel' hkok' g5
          unfold Rep.v
          simp only [shA_v, shCons_v, shI_v, shNil_v]
          intro b106 hb106 hbw106
          have g6 := Holds.new g5 hb106 hbw106 zR tRep
          change Holds w0 M (M5.set b106 (.row [.int .i64 0, .int .i64 0, .int .i64 0, .int .i64 0, .int .i64 0, .int .i64 0] tRep)) (star (row1 b106 zR tRep) _) at g6
          generalize M5.set b106 _ = M6 at g6 ⊢
          refine st_agg (vs := r.cells) W.g32 g6.own1 (by simp [Rep.cells]) (by intro v hv; simp only [Rep.cells, List.mem_cons, List.not_mem_nil, or_false] at hv; rcases hv with rfl | rfl | rfl | rfl | rfl | rfl <;> rfl) ?_
          have g7 := g6.upd1 (cs' := over zR 0 r.cells) (e' := tRep)
          rw [show over zR 0 r.cells = r.cells from rfl] at g7 ⊢
          generalize M6.set b106 _ = M7 at g7 ⊢
          have g8 : Holds w0 M M7 (star (DispA d x') (star (row1 b106 r.cells tRep) (star (row1 b62 c.cells tCmd) (star (SlKA 14 out (vI (evI evs))) (star (SlKA 2 told (vI tl)) emp))))) := g7.rot
          have LR : ∀ {M' : Mem}, Own w0 M' b106 r.cells tRep → (std PP w0).ld tRep ⟨b106, 0, none⟩ M' = some (.agg #[.int .i64 r.why, .int .i64 r.at_, .int .i64 r.gen, .int .i64 r.time, .int .i64 r.data, .int .i64 r.n]) := fun o => ld_agg (cs := r.cells) W.g32 (fun j v hj => by rw [add_eq, rd_own o, Nat.zero_add]; exact hj)
          have keyJ3 : ∀ (M' : Mem) (told : SV) (tl : List Int), told.n ≤ i + 1 → (∀ y ∈ tl, In64 y) → Holds w0 M M' (star (DispA d x') (star (row1 b106 r.cells tRep) (star (row1 b62 c.cells tCmd) (star (SlKA 14 out (vI (evI evs))) (star (SlKA 2 told (vI tl)) emp))))) →
              wJ_made.J3 pts k s most (some ⟨d, 0, none⟩) out told (i : Int) ⟨b62, 0, none⟩ ⟨b106, 0, none⟩ M' := by
            intro M' told tl htn htok g
            rw [H.J3]
            unfold wJ_made.J3.T
            have fin : ∀ (M4 : Mem) (be : Nat) (e : Evt), e.ok → (tame → ∃ sp, 0 ≤ sp ∧ sp ≤ 90 ∧ e = ⟨c, r, x'.now, sp⟩) → Holds w0 M M4 (star (row1 be (EvC e) tEv) (star (DispA d x') (star (row1 b106 r.cells tRep) (star (row1 b62 c.cells tCmd) (star (SlKA 14 out (vI (evI evs))) (star (SlKA 2 told (vI tl)) emp)))))) →
                (ob ((std PP w0).ld tEv ⟨be, 0, none⟩ M4) fun v228 => shA v228 fun l229 => shCons l229 fun u230 r231 => shI .i64 u230 fun n232 => shCons r231 fun u233 r234 => shI .i64 u233 fun n235 => shCons r234 fun u236 r237 => shI .i64 u236 fun n238 => shCons r237 fun u239 r240 => shI .i64 u239 fun n241 => shCons r240 fun u242 r243 => shI .i64 u242 fun n244 => shCons r243 fun u245 r246 => shI .i64 u245 fun n247 => shCons r246 fun u248 r249 => shI .i64 u248 fun n250 => shCons r249 fun u251 r252 => shI .i64 u251 fun n253 => shCons r252 fun u254 r255 => shI .i64 u254 fun n256 => shCons r255 fun u257 r258 => shI .i64 u257 fun n259 => shCons r258 fun u260 r261 => shI .i64 u260 fun n262 => shCons r261 fun u263 r264 => shI .i64 u263 fun n265 => shCons r264 fun u266 r267 => shI .i64 u266 fun n268 => shCons r267 fun u269 r270 => shI .i64 u269 fun n271 => shNil r270
                  ((std PP w0).bsl 37 1 [(0, .agg #[.int .i64 n232, .int .i64 n235, .int .i64 n238, .int .i64 n241, .int .i64 n244, .int .i64 n247, .int .i64 n250, .int .i64 n253, .int .i64 n256, .int .i64 n259, .int .i64 n262, .int .i64 n265, .int .i64 n268, .int .i64 n271])] (fun v272 M273 => shS v272 fun s274 => (std PP w0).app #[37, 37] 37 [SV.v out, SV.v s274] (fun v275 M276 => shS v275 fun s277 => wJ_made.L1 pts k s most (some ⟨d, 0, none⟩) s277 told (w64 ((i : Int) + 1)) M276) M273) M4)) := by
              intro M4 be e heok hte g
              rw [boxEv (e := e) g.own1 rfl]
              unfold Evt.v
              simp only [ob_v, shA_v, shCons_v, shI_v, shNil_v]
              refine newEv g e fun M8 sn l8 h8 => ?_
              rw [shS_sv]
              have e8 := slkCells h8
              have nout := (slkCells g.right.right.right.right).2.1
              unfold vI at nout
              rw [List.length_map, evI_len] at nout
              refine appK Try.underlying37 W.e34 (Holds.ju6 h8) e8.2.1 e8.1 e8.2.2 (EvC_one e) (by decide) (by have := e8.2.1; simp [EvC] at this; omega) fun M9 s9 h9 => ?_
              rw [shS_sv, i64_succ (by omega)]
              rw [evI_snoc] at h9
              by_cases hk0 : k = 0
              · subst hk0; omega
              refine ih (i + 1) M9 s9 told (evs ++ [e]) tl x' st' (by omega) (by omega) (by simp [hel]) (by omega) htn (fun y hy => ?_) htok hrel' hkok' (fun ht => ?_) ?_ hk0
              · rcases List.mem_append.1 hy with hy | hy
                · exact hok y hy
                · simp at hy; subst hy; exact heok
              · obtain ⟨sp, s0, s1, rfl⟩ := hte ht
                exact (hfine ht).app ⟨st', hstep, hrel'.now, s0, s1, rfl⟩
              · obtain ⟨F1, k1, _, k2⟩ := h9.last
                have k3 := k1.right.right
                obtain ⟨F2, k4, _, k5⟩ := k3.last
                exact (k2 _ _ (k5 _ _ k4.right.right)).rot
            have o3 : ∀ {M' : Mem} {P : Asn}, Holds w0 M M' (star (DispA d x') (star (row1 b106 r.cells tRep) (star (row1 b62 c.cells tCmd) P))) → (std PP w0).ld tCmd ⟨b62, 0, none⟩ M' = some (.agg #[.int .i64 c.kind, .int .i64 c.queue, .int .i64 c.at_, .int .i64 c.gen, .int .i64 c.time, .int .i64 c.data]) ∧ (std PP w0).ld tRep ⟨b106, 0, none⟩ M' = some (.agg #[.int .i64 r.why, .int .i64 r.at_, .int .i64 r.gen, .int .i64 r.time, .int .i64 r.data, .int .i64 r.n]) ∧ rd w0 M' ⟨d, 1, none⟩ = some (.int .i64 x'.now) := fun g => by
              obtain ⟨p, s, hs⟩ := DispA.open_ g
              exact ⟨LC g.right.right.own1, LR g.right.own1, hs.rn⟩
            obtain ⟨e1, e2, e3⟩ := o3 g
            have hi64 : In64 (i : Int) := by unfold In64; omega
            simp (maxSteps := 10000000) only [e1, e2, nc_v, ld_one W.c2, add_eq, Nat.zero_add, e3, ob_v, shA_v, shCons_v, shI_v, shNil_v]
            refine ⟨?q1, ?q2⟩
            case' q1 =>
              refine Within_ok hi64 (by omega) (by omega) (by omega) (by omega) fun sp sp0 sp1 => ?_
              rw [shI_v, bEv]
              simp only [ob_v, shA_v, shCons_v, shI_v, shNil_v]
              refine ⟨e1, e2, e3, ?_⟩
              intro be hbe hbew
              have g3 := Holds.new g hbe hbew [.int .i64 0, .int .i64 0, .int .i64 0, .int .i64 0, .int .i64 0, .int .i64 0, .int .i64 0, .int .i64 0, .int .i64 0, .int .i64 0, .int .i64 0, .int .i64 0, .int .i64 0, .int .i64 0] tEv
              generalize M'.set be _ = M3 at g3 ⊢
              obtain ⟨f1, f2, f3⟩ := o3 g3.right
              refine ⟨f1, f2, f3, ?_⟩
            case' q2 =>
              intro be hbe hbew
              have g3 := Holds.new g hbe hbew [.int .i64 0, .int .i64 0, .int .i64 0, .int .i64 0, .int .i64 0, .int .i64 0, .int .i64 0, .int .i64 0, .int .i64 0, .int .i64 0, .int .i64 0, .int .i64 0, .int .i64 0, .int .i64 0] tEv
              generalize M'.set be _ = M3 at g3 ⊢
              obtain ⟨f1, f2, f3⟩ := o3 g3.right
              refine ⟨f1, f2, f3, ?_⟩
              refine Within_ok hi64 (by omega) (by omega) (by omega) (by omega) fun sp sp0 sp1 => ?_
              rw [shI_v, bEv]
              simp only [ob_v, shA_v, shCons_v, shI_v, shNil_v]
              refine ⟨f1, f2, f3, ?_⟩
            all_goals
              refine st_agg (vs := EvC ⟨c, r, x'.now, sp⟩) W.g34 g3.own1 (by simp [EvC]) (EvC_one _) ?_
              have g4 := g3.upd1 (cs' := over [.int .i64 0, .int .i64 0, .int .i64 0, .int .i64 0, .int .i64 0, .int .i64 0, .int .i64 0, .int .i64 0, .int .i64 0, .int .i64 0, .int .i64 0, .int .i64 0, .int .i64 0, .int .i64 0] 0 (EvC ⟨c, r, x'.now, sp⟩)) (e' := tEv)
              rw [show over [.int .i64 0, .int .i64 0, .int .i64 0, .int .i64 0, .int .i64 0, .int .i64 0, .int .i64 0, .int .i64 0, .int .i64 0, .int .i64 0, .int .i64 0, .int .i64 0, .int .i64 0, .int .i64 0] 0 (EvC ⟨c, r, x'.now, sp⟩) = EvC ⟨c, r, x'.now, sp⟩ from rfl] at g4 ⊢
              generalize M3.set be _ = M4 at g4 ⊢
              have hM4 := g4.fr
              have t11 : rd w0 M4 (Addr.add (a.add (i * 27)) 11) = some (.int .i64 (gd 11)) := by rw [add_add]; exact hra M4 hM4 11 (by decide)
              have t12 : rd w0 M4 (Addr.add (a.add (i * 27)) 12) = some (.int .i64 (gd 12)) := by rw [add_add]; exact hra M4 hM4 12 (by decide)
              have t13 : (std PP w0).ld tEv (Addr.add (a.add (i * 27)) 13) M4 = some (.agg #[.int .i64 (gd 13), .int .i64 (gd 14), .int .i64 (gd 15), .int .i64 (gd 16), .int .i64 (gd 17), .int .i64 (gd 18), .int .i64 (gd 19), .int .i64 (gd 20), .int .i64 (gd 21), .int .i64 (gd 22), .int .i64 (gd 23), .int .i64 (gd 24), .int .i64 (gd 25), .int .i64 (gd 26)]) := ld_agg (cs := [.int .i64 (gd 13), .int .i64 (gd 14), .int .i64 (gd 15), .int .i64 (gd 16), .int .i64 (gd 17), .int .i64 (gd 18), .int .i64 (gd 19), .int .i64 (gd 20), .int .i64 (gd 21), .int .i64 (gd 22), .int .i64 (gd 23), .int .i64 (gd 24), .int .i64 (gd 25), .int .i64 (gd 26)]) W.g34 (fun j v hj => by
                rw [add_add, add_add]
                match j, hj with
                | 0, hj => cases hj; exact hra M4 hM4 13 (by decide)
                | 1, hj => cases hj; exact hra M4 hM4 14 (by decide)
                | 2, hj => cases hj; exact hra M4 hM4 15 (by decide)
                | 3, hj => cases hj; exact hra M4 hM4 16 (by decide)
                | 4, hj => cases hj; exact hra M4 hM4 17 (by decide)
                | 5, hj => cases hj; exact hra M4 hM4 18 (by decide)
                | 6, hj => cases hj; exact hra M4 hM4 19 (by decide)
                | 7, hj => cases hj; exact hra M4 hM4 20 (by decide)
                | 8, hj => cases hj; exact hra M4 hM4 21 (by decide)
                | 9, hj => cases hj; exact hra M4 hM4 22 (by decide)
                | 10, hj => cases hj; exact hra M4 hM4 23 (by decide)
                | 11, hj => cases hj; exact hra M4 hM4 24 (by decide)
                | 12, hj => cases hj; exact hra M4 hM4 25 (by decide)
                | 13, hj => cases hj; exact hra M4 hM4 26 (by decide))
              have ob4 := g4.own1
              have b6 : rd w0 M4 ⟨be, 6, none⟩ = some (.int .i64 r.why) := rd_own (o := 6) ob4
              have b7 : rd w0 M4 ⟨be, 7, none⟩ = some (.int .i64 r.at_) := rd_own (o := 7) ob4
              have b9 : rd w0 M4 ⟨be, 9, none⟩ = some (.int .i64 r.time) := rd_own (o := 9) ob4
              have b11 : rd w0 M4 ⟨be, 11, none⟩ = some (.int .i64 r.n) := rd_own (o := 11) ob4
              have b12 : rd w0 M4 ⟨be, 12, none⟩ = some (.int .i64 x'.now) := rd_own (o := 12) ob4
              simp (maxSteps := 10000000) only [ha, nc_v, Int.toNat_natCast, ld_one W.c3, ld_one W.c2, ld_one W.c30, add_eq, Nat.zero_add, Nat.reduceAdd, t11, t12, t13, b6, b7, b9, b11, b12, bq_xor, ob_v, shA_v, shCons_v, shI_v, shNil_v]
              refine ⟨hbd, ?_⟩
              have spin : In64 sp := by unfold In64; omega
              have nin : In64 x'.now := hkok'.now
              have ri : ∀ y ∈ r.ints, In64 y := hrok
              have r0 : In64 r.why := ri _ (by simp [Rep.ints])
              have r1 : In64 r.at_ := ri _ (by simp [Rep.ints])
              have r2 : In64 r.gen := ri _ (by simp [Rep.ints])
              have r3 : In64 r.time := ri _ (by simp [Rep.ints])
              have r4 : In64 r.data := ri _ (by simp [Rep.ints])
              have r5 : In64 r.n := ri _ (by simp [Rep.ints])
              rw [bs_beq]
              split
              · rename_i ht
                refine st_one W.c2 ob4 (by simp [EvC]) rfl rfl ?_
                exact fin _ be ⟨c, { r with time := xor1 r.time }, x'.now, sp⟩ (ev14 hc (rep6 r0 r1 r2 (xor1_in _) r4 r5) nin spin) (fun hh => by have := htm hh; omega) (g4.upd1 (cs' := EvC ⟨c, { r with time := xor1 r.time }, x'.now, sp⟩) (e' := tEv))
              · rename_i ht1
                rw [bs_beq]
                split
                · rename_i ht
                  refine st_one W.c30 ob4 (by simp [EvC]) rfl rfl ?_
                  exact fin _ be ⟨c, { r with why := w64 (r.why + 1) }, x'.now, sp⟩ (ev14 hc (rep6 (w64_range _) r1 r2 r3 r4 r5) nin spin) (fun hh => by have := htm hh; omega) (g4.upd1 (cs' := EvC ⟨c, { r with why := w64 (r.why + 1) }, x'.now, sp⟩) (e' := tEv))
                · rename_i ht2
                  rw [bs_beq]
                  split
                  · rename_i ht
                    refine st_one W.c2 ob4 (by simp [EvC]) rfl rfl ?_
                    exact fin _ be ⟨c, r, xor1 x'.now, sp⟩ (ev14 hc hrok (xor1_in _) spin) (fun hh => by have := htm hh; omega) (g4.upd1 (cs' := EvC ⟨c, r, xor1 x'.now, sp⟩) (e' := tEv))
                  · rename_i ht3
                    rw [bs_beq]
                    split
                    · rename_i ht
                      refine ⟨hbd, ?_⟩
                      refine st_one W.c2 ob4 (by simp [EvC]) rfl rfl ?_
                      exact fin _ be ⟨c, r, x'.now, gd 12⟩ (ev14 hc hrok nin (hw 12 (by decide))) (fun hh => by have := htm hh; omega) (g4.upd1 (cs' := EvC ⟨c, r, x'.now, gd 12⟩) (e' := tEv))
                    · rename_i ht4
                      rw [bs_beq]
                      split
                      · rename_i ht
                        refine st_one W.c3 ob4 (by simp [EvC]) rfl rfl ?_
                        exact fin _ be ⟨c, { r with at_ := w64 (r.at_ + 1) }, x'.now, sp⟩ (ev14 hc (rep6 r0 (w64_range _) r2 r3 r4 r5) nin spin) (fun hh => by have := htm hh; omega) (g4.upd1 (cs' := EvC ⟨c, { r with at_ := w64 (r.at_ + 1) }, x'.now, sp⟩) (e' := tEv))
                      · rename_i ht5
                        rw [bs_beq]
                        split
                        · rename_i ht
                          refine st_one W.c3 ob4 (by simp [EvC]) rfl rfl ?_
                          exact fin _ be ⟨c, { r with n := w64 (r.n + 1) }, x'.now, sp⟩ (ev14 hc (rep6 r0 r1 r2 r3 r4 (w64_range _)) nin spin) (fun hh => by have := htm hh; omega) (g4.upd1 (cs' := EvC ⟨c, { r with n := w64 (r.n + 1) }, x'.now, sp⟩) (e' := tEv))
                        · rename_i ht6
                          rw [bs_beq]
                          split
                          · rename_i ht
                            refine ⟨hbd, ?_⟩
                            refine st_agg (vs := EvC ⟨⟨gd 13, gd 14, gd 15, gd 16, gd 17, gd 18⟩, ⟨gd 19, gd 20, gd 21, gd 22, gd 23, gd 24⟩, gd 25, gd 26⟩) W.g34 ob4 (by simp [EvC]) (EvC_one _) ?_
                            exact fin _ be ⟨⟨gd 13, gd 14, gd 15, gd 16, gd 17, gd 18⟩, ⟨gd 19, gd 20, gd 21, gd 22, gd 23, gd 24⟩, gd 25, gd 26⟩ (ev14 (ok6 (hw 13 (by decide)) (hw 14 (by decide)) (hw 15 (by decide)) (hw 16 (by decide)) (hw 17 (by decide)) (hw 18 (by decide))) (rep6 (hw 19 (by decide)) (hw 20 (by decide)) (hw 21 (by decide)) (hw 22 (by decide)) (hw 23 (by decide)) (hw 24 (by decide))) (hw 25 (by decide)) (hw 26 (by decide))) (fun hh => by have := htm hh; omega) (g4.upd1 (cs' := EvC ⟨⟨gd 13, gd 14, gd 15, gd 16, gd 17, gd 18⟩, ⟨gd 19, gd 20, gd 21, gd 22, gd 23, gd 24⟩, gd 25, gd 26⟩) (e' := tEv))
                          · exact fin M4 be ⟨c, r, x'.now, sp⟩ (ev14 hc hrok nin spin) (fun _ => ⟨sp, sp0, sp1, rfl⟩) g4
          have ck := g8.right.right.own1
          have cr := g8.right.own1
          have k0 : rd w0 M7 ⟨b62, 0, none⟩ = some (.int .i64 c.kind) := rd_own (o := 0) ck
          have w0' : rd w0 M7 ⟨b106, 0, none⟩ = some (.int .i64 r.why) := rd_own (o := 0) cr
          have ldj : (std PP w0).ld 25 ⟨b106, 1, none⟩ M7 = some (.agg #[.int .i64 r.at_, .int .i64 r.gen]) := ld_agg (cs := [.int .i64 r.at_, .int .i64 r.gen]) W.g25 (fun j v hj => by
            rw [add_eq, rd_own cr]
            match j, hj with
            | 0, hj => exact hj
            | 1, hj => exact hj)
          simp only [ld_one W.c3, ld_one W.c30, add_eq, Nat.zero_add, k0, w0', ldj, ob_v, shA_v, shCons_v, shI_v, shNil_v]
          rw [bs_beq]
          split
          · rw [bs_beq]
            split
            · refine bsl_e (n := 1) (cells := #[.int .i64 r.at_, .int .i64 r.gen]) Try.underlying47 W.e25 (by decide) (by kernel_rfl) fun bt hbt hbtw => ?_
              have l8 : Mem.le M7 (M7.set bt (.row (#[.int .i64 r.at_, .int .i64 r.gen] : Array Value).toList 25)) := Mem.le_set _ hbt
              have h8 : Holds w0 M (M7.set bt (.row (#[.int .i64 r.at_, .int .i64 r.gen] : Array Value).toList 25)) (star (SlKA 2 ⟨some ⟨bt, 0, none⟩, 1, 1⟩ [.int .i64 r.at_, .int .i64 r.gen]) _) := Holds.newSlk g8 l8 (SlK.new (n := 1) hbt (Own.new hbtw) rfl)
              generalize M7.set bt _ = M8 at h8 l8 ⊢
              rw [shS_v]
              have e8 := slkCells h8
              have nt := (slkCells g8.right.right.right.right).2.1
              refine appK (x := ⟨some ⟨bt, 0, none⟩, 1, 1⟩) Try.underlying47 W.e25 (Holds.ju6 h8) e8.2.1 e8.1 e8.2.2 (vI_one [r.at_, r.gen]) (by decide) (by simp only; omega) fun M9 s9 h9 => ?_
              rw [shS_sv]
              have hvv : vI tl ++ [Value.int .i64 r.at_, .int .i64 r.gen] = vI (tl ++ [r.at_, r.gen]) := by simp [vI]
              rw [hvv] at h9
              have hn9 : s9.n ≤ i + 1 := by
                have h1 := (slkCells h9).2.1
                simp [vI] at h1 nt
                omega
              refine keyJ3 M9 s9 (tl ++ [r.at_, r.gen]) hn9 (fun y hy => ?_) ?_
              · rcases List.mem_append.1 hy with hy | hy
                · exact htok y hy
                · simp at hy
                  rcases hy with rfl | rfl
                  · exact hrok _ (by simp [Rep.ints])
                  · exact hrok _ (by simp [Rep.ints])
              · -- told behind the others
                obtain ⟨F1, k1, _, k2⟩ := h9.last
                have k3 := k1.right
                have k4 := k2 _ _ k3
                have k5 : Holds w0 M M9 (star (SlKA 2 s9 (vI (tl ++ [r.at_, r.gen]))) (star (DispA d x') (star (row1 b106 r.cells tRep) (star (row1 b62 c.cells tCmd) (star (SlKA 14 out (vI (evI evs))) emp))))) := k4
                exact Holds.ju5i k5
            · exact keyJ3 M7 told tl (by omega) htok g8
          · exact keyJ3 M7 told tl (by omega) htok g8
        · exact endR M' out told evs tl x st hok (by omega) hfine g
      · exact endR M' out told evs tl x st hok (by omega) hfine g
  exact ⟨_, key (s.n + 1) 0 M1 ⟨none, 0, 0⟩ ⟨none, 0, 0⟩ [] [] (D22.new n) ⟨0, []⟩ (.inl (by omega)) (by omega) rfl (Nat.le_refl _) (Nat.le_refl _) (fun e he => by cases he) (fun y hy => by cases hy) (RelD.new (by omega)) (KOk.new n) (fun _ => rfl) (by
    obtain ⟨F1, k1, _, k2⟩ := g1.last
    exact k2 _ _ (Holds.nilSlk (k := 14) (Holds.nilSlk (k := 2) k1))) (by omega)⟩
end
end Go.Proofs.Ytedofpnjmnkedaa.HL
namespace Go.Proofs.Ytedofpnjmnkedaa.HL
open Go.RowKit (Below)
open Go.Proofs
theorem inE_set_le {l : List JobA} {i : Nat} {j j' : JobA} (h : l[i]? = some j) (hi : j'.inn = true → j.inn = true) : (inE (fun _ => true) 0 (l.set i j')).length ≤ (inE (fun _ => true) 0 l).length := by
  obtain ⟨A, B, rfl, hl, hs⟩ := split_at h
  rw [hs, inE_mid, inE_mid]
  simp only [List.length_append, Bool.and_true]
  by_cases hj' : j'.inn = true
  · rw [if_pos hj', if_pos (hi hj')]; exact Nat.le_refl _
  · rw [if_neg hj']
    simp only [List.length_nil]; omega
theorem inE_map0len : ∀ (l : List JobA) (n : Nat), (inE (fun _ => true) n (l.map fun j => { j with queue := 0 })).length = (inE (fun _ => true) n l).length
  | [], n => rfl
  | j :: l, n => by
    simp only [List.map_cons, inE, Bool.and_true]
    have := inE_map0len l (n + 1)
    split
    · simp only [List.length_cons, this]
    · exact this
theorem stepA_all {jobs : Int} {st st' : St} {c : Cmd} {was r : Rep} (h : stepA jobs st c was = some (st', r)) : (allE st'.l).length ≤ (allE st.l).length ∨ ((allE st'.l).length ≤ (allE st.l).length + 1 ∧ ((allE st.l).length : Int) < jobs) := by
  unfold allE
  simp only [sortE_len]
  by_cases hb : badQ c
  · rw [stepA_bad hb] at h; cases h; exact .inl (Nat.le_refl _)
  · by_cases k1 : c.kind = 1
    · rw [stepA_1 hb k1] at h
      split at h
      · cases h; exact .inl (Nat.le_refl _)
      · rename_i hc
        unfold allE at hc
        rw [sortE_len] at hc
        split at h
        · cases h
        · cases h
          right
          rw [inE_app]
          simp only [inE, List.length_append]
          refine ⟨?_, by omega⟩
          simp
    · by_cases k2 : c.kind = 2 ∨ c.kind = 3
      · rw [stepA_23 k2] at h
        split at h
        · cases h; exact .inl (Nat.le_refl _)
        · split at h
          · cases h
          · rename_i i hf j hj
            split at h
            · cases h; exact .inl (Nat.le_refl _)
            · rename_i hin
              split at h
              · cases h; exact .inl (inE_set_le hj (fun hh => by cases hh))
              · split at h
                · cases h; exact .inl (Nat.le_refl _)
                · cases h; exact .inl (inE_set_le hj (fun hh => hh))
      · by_cases k4 : c.kind = 4
        · rw [stepA_4 k4] at h
          split at h
          · cases h; exact .inl (Nat.le_refl _)
          · cases h; exact .inl (Nat.le_refl _)
        · by_cases k5 : c.kind = 5
          · rw [stepA_5 hb k5] at h
            split at h
            · cases h; exact .inl (Nat.le_refl _)
            · split at h
              · cases h; exact .inl (Nat.le_refl _)
              · split at h
                · cases h
                · rename_i hj
                  cases h; exact .inl (inE_set_le hj (fun hh => by cases hh))
          · by_cases k6 : c.kind = 6
            · rw [stepA_6 hb k6] at h
              split at h
              · cases h; exact .inl (Nat.le_refl _)
              · cases h
                left
                rw [inE_map0len]; exact Nat.le_refl _
            · by_cases k7 : c.kind = 7
              · rw [stepA_7 hb k7] at h; cases h; exact .inl (Nat.le_refl _)
              · rw [stepA_8 (by omega)] at h; cases h; exact .inl (Nat.le_refl _)
theorem whyA_all {jobs bud : Int} {st : St} {e : Evt} : (allE (whyA jobs bud st e).2.l).length ≤ (allE st.l).length ∨ ((allE (whyA jobs bud st e).2.l).length ≤ (allE st.l).length + 1 ∧ ((allE st.l).length : Int) < jobs) := by
  cases h : stepA jobs st e.c e.r with
  | none => rw [whyA_none h]; exact .inl (Nat.le_refl _)
  | some x =>
    obtain ⟨st', r⟩ := x
    have := stepA_all h
    rw [whyA_some h]
    split
    · exact .inl (Nat.le_refl _)
    · split
      · exact .inl (Nat.le_refl _)
      · split
        · exact .inl (Nat.le_refl _)
        · exact this
theorem ckA_all1 {jobs bud : Int} {N : Nat} (hN : jobs ≤ (N : Int)) : ∀ (es : List Evt) (i : Int) (st : St), (allE st.l).length ≤ N → (allE (ckA jobs bud i st es).2.2.l).length ≤ N
  | [], i, st, h => h
  | e :: es, i, st, h => by
    by_cases hw : (whyA jobs bud st e).1 = 0
    · rw [ckA_cons0 hw]
      refine ckA_all1 hN es _ _ ?_
      rcases whyA_all (jobs := jobs) (bud := bud) (st := st) (e := e) with hh | ⟨h1, h2⟩
      · omega
      · omega
    · rw [ckA_cons1 hw]; exact h
theorem ckA_all2 {jobs bud : Int} : ∀ (es : List Evt) (i : Int) (st : St), (allE (ckA jobs bud i st es).2.2.l).length ≤ (allE st.l).length + es.length
  | [], i, st => Nat.le_add_right _ _
  | e :: es, i, st => by
    by_cases hw : (whyA jobs bud st e).1 = 0
    · rw [ckA_cons0 hw]
      have := ckA_all2 (jobs := jobs) (bud := bud) es (i + 1) (whyA jobs bud st e).2
      rw [List.length_cons]
      rcases whyA_all (jobs := jobs) (bud := bud) (st := st) (e := e) with hh | ⟨h1, h2⟩
      · omega
      · omega
    · rw [ckA_cons1 hw]
      simp only; omega
theorem CkB_39 {k jobs : Int} {l : List Evt} (h : jobs ≤ 39 ∨ l.length ≤ 39) : (CkB k jobs l).2.2.length ≤ 39 := by
  unfold CkB
  split
  · simp only
    rcases h with h | h
    · exact ckA_all1 (N := 39) h l 0 ⟨0, []⟩ (by decide)
    · have := ckA_all2 (jobs := jobs) (bud := 2000 + 1600 * (bl (jobs.toNat + 1) : Int)) l 0 ⟨0, []⟩
      have h0 : (allE ([] : List JobA)).length = 0 := rfl
      simp only [h0] at this
      omega
  · simp
section
variable {w0 : World} {F M : Mem} {R : VP}
theorem Same64_ok {s x : SV} {l m : List Int} (hs : RdI w0 M .i64 s l) (hx : RdI w0 M .i64 x m) (h : R (.bool (decide (l = m))) M) : C PP w0 Id.tb_Same_int64 #[SV.v s, SV.v x] R M := by
  apply tb_Same_int64.go
  intro pts H
  unfold tb_Same_int64.T
  have hl := hs.len
  have hlx := hx.len
  have hm := hs.max
  rw [bs_bne]
  split
  · rename_i he
    have key : ∀ (k i : Nat), i ≤ l.length → l.length < i + k → (∀ j < i, l[j]? = m[j]?) → tb_Same_int64.L1 pts k s x (i : Int) M := by
      intro k
      induction k with
      | zero => intro i h1 h2; omega
      | succ k ih =>
        intro i h1 h2 hok
        rw [H.L1]
        unfold tb_Same_int64.L1.T
        rw [bs_decide]
        split
        · have hi : i < l.length := by omega
          have e1 := List.getElem?_eq_getElem hi
          have e2 := List.getElem?_eq_getElem (show i < m.length by omega)
          generalize l[i] = u at e1
          generalize m[i] = v at e2
          refine rdx W.c2 hs (Mem.le_refl _) i rfl e1 ?_
          refine rdx W.c2 hx (Mem.le_refl _) i rfl e2 ?_
          rw [bs_bne]
          split
          · rename_i huv
            subst huv
            rw [i64_next hi hm]
            refine ih (i + 1) (by omega) (by omega) fun j hj => ?_
            rcases Nat.lt_succ_iff_lt_or_eq.1 hj with hj | rfl
            · exact hok j hj
            · rw [e1, e2]
          · rename_i huv
            have : ¬ l = m := fun hh => by subst hh; rw [e1] at e2; exact huv (Option.some.inj e2)
            rw [decide_eq_false this] at h; exact h
        · have : l = m := by
            apply List.ext_getElem?
            intro j
            by_cases hj : j < l.length
            · exact hok j (by omega)
            · rw [List.getElem?_eq_none (by omega), List.getElem?_eq_none (by omega)]
          rw [decide_eq_true this] at h; exact h
    exact ⟨l.length + 1, key _ 0 (by omega) (by omega) (fun j hj => by omega)⟩
  · rename_i he
    have : ¬ l = m := fun hh => by subst hh; omega
    rw [decide_eq_false this] at h; exact h
theorem firedL_len (l : List Evt) : (firedL l).length ≤ l.length := by
  unfold firedL
  rw [List.length_map]
  exact List.length_filter_le _ _
theorem firedL_ok {l : List Evt} (h : ∀ (j : Nat) x, l[j]? = some x → In64 x.r.time) : ∀ n ∈ firedL l, (Lit.int .i64 n).wf = true := fun n hn => by
  obtain ⟨e, he, rfl⟩ := List.mem_map.1 hn
  obtain ⟨j, hj⟩ := List.getElem?_of_mem ((List.mem_filter.1 he).1)
  exact wf64 (h j e hj)
theorem same_ok {k jobs : Int} {s : SV} {l : List Evt} (hs : RdF w0 M 14 s (evI l)) (hl : l.length ≤ 900) (h39 : jobs ≤ 39 ∨ l.length ≤ 39) (hR : ∀ M', Mem.le M M' → R (.bool true) M') : C PP w0 Id.wJ_same #[.int .i64 k, .int .i64 jobs, SV.v s] R M := by
  apply wJ_same.go
  intro pts H
  unfold wJ_same.T
  have hb := CkB_39 (k := k) h39
  refine JCheck_ok hs hl fun M1 l1 => ?_
  simp only [shT_v, shCons_v, shI_v, shNil_v]
  refine BCheck_ok (hs.le l1) hl fun M2 s2 l2 r2 => ?_
  simp only [shT_v, shCons_v, shI_v, shNil_v, shS_sv]
  rw [bs_bne, if_pos rfl, bs_bne, if_pos rfl]
  have l12 := Mem.le_trans l1 l2
  refine JOpen_ok (hs.le l12) hl hb fun M3 s3 l3 r3 => ?_
  rw [shS_sv]
  refine SameE_ok r3 (r2.le l3) (by omega) ?_
  rw [shB_v, decide_eq_true rfl, Bool.not_true, bs_false]
  have l13 := Mem.le_trans l12 l3
  rw [H.J1]
  unfold wJ_same.J1.T
  have hs3 := hs.le l13
  have hn := hs.evn
  have key : ∀ (n i : Nat) (o : SV) (M' : Mem), i ≤ l.length → l.length < i + n → Mem.le M3 M' → Sl w0 M3 M' o ((firedL (l.take i)).map (Value.int .i64)) → wJ_same.L2 pts n s o (i : Int) M' := by
    intro n
    induction n with
    | zero => intro i o M' h1 h2; omega
    | succ n ih =>
      intro i o M' h1 h2 hle ho
      rw [H.L2]
      unfold wJ_same.L2.T
      rw [bs_decide]
      split
      · have hlt : i < l.length := by omega
        have ee := List.getElem?_eq_getElem hlt
        have htk : l.take (i + 1) = l.take i ++ [l[i]] := by rw [List.take_add_one, ee]; rfl
        generalize l[i] = e at ee htk
        have hft : firedL (l.take (i + 1)) = firedL (l.take i) ++ (if e.c.kind = 5 ∧ e.r.why = 0 then [e.r.time] else []) := by
          rw [htk]
          unfold firedL
          rw [List.filter_append, List.map_append]
          congr 1
          by_cases hc : e.c.kind = 5 ∧ e.r.why = 0
          · rw [if_pos hc, List.filter_cons_of_pos (by simpa using hc)]; rfl
          · rw [if_neg hc, List.filter_cons_of_neg (by simpa using hc)]; rfl
        obtain ⟨a, ha, _⟩ := hs3.cell _ _ (evI_get ee 0 _ rfl)
        have rr : ∀ f x, e.ints[f]? = some x → rd w0 M' (a.add (i * 14 + f)) = some (.int .i64 x) := fun f x hf => by
          obtain ⟨a', ha', hr⟩ := hs3.cell _ _ (evI_get ee f x hf)
          rw [ha] at ha'; cases ha'
          exact hr M' hle
        have e0 : rd w0 M' (a.add (i * 14)) = some (.int .i64 e.c.kind) := rr 0 _ rfl
        have e6 : rd w0 M' (Addr.add (a.add (i * 14)) 6) = some (.int .i64 e.r.why) := by rw [add_add]; exact rr 6 _ rfl
        have e9 : rd w0 M' (Addr.add (Addr.add (a.add (i * 14)) 6) 3) = some (.int .i64 e.r.time) := by rw [add_add, add_add]; exact rr 9 _ rfl
        have hbd : 0 ≤ (i : Int) ∧ (i : Int) < ((s.n : Nat) : Int) := ⟨by omega, by omega⟩
        have hsame : ¬ (e.c.kind = 5 ∧ e.r.why = 0) → wJ_same.L2 pts n s o (w64 ((i : Int) + 1)) M' := by
          intro hc
          rw [if_neg hc, List.append_nil] at hft
          rw [i64_succ (by omega)]
          refine ih (i + 1) o M' (by omega) (by omega) hle ?_
          rw [hft]; exact ho
        simp only [ha, nc_v, Int.toNat_natCast, ld_one W.c3, ld_one W.c2, ld_one W.c30, e0, e6, e9, ob_v, shI_v]
        refine ⟨hbd, ?_⟩
        rw [bs_beq]
        split
        · rename_i h5
          refine ⟨hbd, ?_⟩
          rw [bs_beq]
          split
          · rename_i hw
            refine ⟨hbd, ?_⟩
            rw [if_pos ⟨h5, hw⟩] at hft
            refine bsl_e (n := 1) (cells := #[.int .i64 e.r.time]) Try.underlying66 W.e2 (by decide) (by kernel_rfl) fun b4 hb4 hbw4 => ?_
            have l4 : Mem.le M' (M'.set b4 (.row (#[Value.int .i64 e.r.time] : Array Value).toList 2)) := Mem.le_set _ hb4
            have hx : RdI w0 (M'.set b4 (.row (#[Value.int .i64 e.r.time] : Array Value).toList 2)) .i64 ⟨some ⟨b4, 0, none⟩, 1, 1⟩ [e.r.time] := RdI.own (o := 0) (Own.new hbw4) rfl (Nat.le_refl _) (fun j x hj => by
              rw [Nat.zero_add]
              match j, hj with
              | 0, hj => simp at hj; subst hj; rfl) (fun n hn => by simp at hn; subst hn; exact wf64 (hs.evt ee).2.2.2) (by simp)
            generalize M'.set b4 _ = M4 at l4 hx ⊢
            rw [shS_v]
            refine app_rd (x := ⟨some ⟨b4, 0, none⟩, 1, 1⟩) (m := [e.r.time]) Try.underlying66 W.e2 (Mem.le_trans hle l4) (ho.le l4) hx (Mem.le_refl _) ?_ fun M5 o5 l5 h5 => ?_
            · have : (firedL (l.take i)).length ≤ l.length := Nat.le_trans (firedL_len _) (by rw [List.length_take]; omega)
              simp; omega
            · rw [shS_sv, i64_succ (by omega)]
              refine ih (i + 1) o5 M5 (by omega) (by omega) l5 ?_
              rw [hft]; exact h5
          · rename_i hw
            exact hsame fun hh => hw hh.2
        · rename_i h5
          exact hsame fun hh => h5 hh.1
      · have hii : i = l.length := by omega
        subst hii
        rw [List.take_length] at ho
        have hfl := firedL_len l
        have hfo := firedL_ok (fun j x hx => (hs.evt hx).2.2.2)
        refine JFired_ok (hs.le (Mem.le_trans l13 hle)) hl fun M4 o4 l4 h4 => ?_
        rw [shS_sv]
        refine Same64_ok (h4.rdI hfo (by omega)) ((ho.le l4).rdI hfo (by omega)) ?_
        rw [shB_v, decide_eq_true rfl]
        exact hR M4 (Mem.le_trans l13 (Mem.le_trans hle l4))
  exact ⟨_, key (l.length + 1) 0 ⟨none, 0, 0⟩ M3 (by omega) (by omega) (Mem.le_refl _) Sl.nil⟩
theorem RdF.nilE : RdF w0 M 14 ⟨none, 0, 0⟩ (evI []) := ⟨rfl, Nat.le_refl _, by simp, fun j x hx => by simp [evI] at hx, fun n hn => by cases hn⟩
def evOdd : Evt := ⟨⟨5, 0, 0, 0, 0, 0⟩, { why := 28 }, 1, 0⟩
theorem ck1 : (CkB 1 5 []).1 = -1 ∧ (CkB 1 5 []).2.1 = 0 := ⟨rfl, rfl⟩
theorem ck2 : (CkB 5 5 []).1 = 0 ∧ (CkB 5 5 []).2.1 = 1 := ⟨rfl, rfl⟩
theorem ck3 : (CkB 1 5 [evOdd]).1 = 0 ∧ (CkB 1 5 [evOdd]).2.1 = 3 := ⟨rfl, rfl⟩
theorem known26_ok (hR : ∀ M', Mem.le M M' → R (.bool true) M') : C PP w0 Id.wJ_known #[] R M := by
  apply wJ_known.go
  unfold wJ_known.T
  refine JCheck_ok (s := ⟨none, 0, 0⟩) (l := []) RdF.nilE (by decide) fun M1 l1 => ?_
  rw [ck1.1, ck1.2]
  simp only [shT_v, shCons_v, shI_v, shNil_v]
  refine JCheck_ok (s := ⟨none, 0, 0⟩) (l := []) RdF.nilE (by decide) fun M2 l2 => ?_
  rw [ck2.1, ck2.2]
  have hb1 : (std PP w0).bld tCmd [(0, .int .i64 5)] = some (.agg #[.int .i64 5, .int .i64 0, .int .i64 0, .int .i64 0, .int .i64 0, .int .i64 0]) := by kernel_rfl
  have hb2 : (std PP w0).bld tEv [(0, .agg #[.int .i64 5, .int .i64 0, .int .i64 0, .int .i64 0, .int .i64 0, .int .i64 0]), (1, .agg #[.int .i64 28, .int .i64 0, .int .i64 0, .int .i64 0, .int .i64 0, .int .i64 0]), (2, .int .i64 1)] = some (.agg #[.int .i64 5, .int .i64 0, .int .i64 0, .int .i64 0, .int .i64 0, .int .i64 0, .int .i64 28, .int .i64 0, .int .i64 0, .int .i64 0, .int .i64 0, .int .i64 0, .int .i64 1, .int .i64 0]) := by kernel_rfl
  simp only [shT_v, shCons_v, shI_v, shNil_v, hb1, bR0, hb2, ob_v, shA_v]
  refine newEv (Holds.emp0 (w0 := w0) (M := M2)) evOdd fun M3 s l3 h3 => ?_
  rw [shS_sv]
  have hrd : RdF w0 M3 14 s (evI [evOdd]) := Holds.rdF (by decide) (l := evI [evOdd]) h3 (wf_all (by intro x hx; simp [evI, Evt.ints, evOdd] at hx; unfold In64; omega)) (by have := (slkCells h3).2.1; simp [EvC] at this; omega)
  refine JCheck_ok hrd (by decide) fun M4 l4 => ?_
  rw [ck3.1, ck3.2]
  simp only [shT_v, shCons_v, shI_v, shNil_v]
  rw [show ((-1 : Int) == -1) = true from rfl, bs_true, show ((0 : Int) == 0) = true from rfl, bs_true, bs_true, show ((1 : Int) == 1) = true from rfl, bs_true, bs_true, show ((3 : Int) == 3) = true from rfl]
  exact hR M4 (Mem.le_trans l1 (Mem.le_trans l2 (Mem.le_trans l3 l4)))
end
end Go.Proofs.Ytedofpnjmnkedaa.HL
namespace Go.Proofs.Ytedofpnjmnkedaa.HL
open Go.RowKit (Below)
open Go.Proofs
theorem over_all {cs vs : List Value} (h : vs.length = cs.length) : over cs 0 vs = vs := by
  have := over_mid [] cs [] vs h (o := 0) rfl
  simpa using this
section
variable {w0 : World} {F M : Mem} {R : VP}
theorem RdF.cellsV {k : Nat} {M0 : Mem} {s : SV} {l : List Int} (h : RdF w0 M0 k s l) (hl : Mem.le M0 M) : Cells w0 M s.a (vI l) := fun j v hj => by
  unfold vI at hj
  rw [List.getElem?_map] at hj
  cases hx : l[j]? with
  | none => rw [hx] at hj; cases hj
  | some x =>
    rw [hx] at hj; cases hj
    obtain ⟨a, ha, hr⟩ := h.cell j x hx
    exact ⟨a, ha, hr M hl⟩
theorem RdF.nulV {k : Nat} (hk : 0 < k) {M0 : Mem} {s : SV} {l : List Int} (h : RdF w0 M0 k s l) (hn : s.a = none) : s.n = 0 := by
  cases l with
  | nil =>
    have h1 : 0 = s.n * k := h.len
    exact (Nat.mul_eq_zero.1 h1.symm).resolve_right (by omega)
  | cons x t =>
    obtain ⟨a, ha, _⟩ := h.cell 0 x rfl
    rw [hn] at ha; cases ha
theorem Fine.take {jobs : Int} : ∀ {es : List Evt} {st st' : St} (k : Nat), Fine jobs st es st' → ∃ st'', Fine jobs st (es.take k) st''
  | [], st, st', k, h => ⟨st, by rw [List.take_nil]; rfl⟩
  | e :: es, st, st', 0, h => ⟨st, rfl⟩
  | e :: es, st, st', k + 1, h => by
    obtain ⟨s, h1, h2, h3, h4, h5⟩ := h
    obtain ⟨s2, h6⟩ := h5.take k
    exact ⟨s2, s, h1, h2, h3, h4, h6⟩
theorem Fine.at {jobs : Int} : ∀ {es : List Evt} {st st' : St} {k : Nat} {e : Evt}, Fine jobs st es st' → es[k]? = some e → ∃ s1 s2, Fine jobs st (es.take k) s1 ∧ stepA jobs s1 e.c e.r = some (s2, e.r) ∧ e.now = s2.now ∧ 0 ≤ e.steps ∧ e.steps ≤ 90
  | [], st, st', k, e, h, he => by simp at he
  | x :: es, st, st', 0, e, h, he => by
    simp at he; subst he
    obtain ⟨s, h1, h2, h3, h4, h5⟩ := h
    exact ⟨st, s, rfl, h1, h2, h3, h4⟩
  | x :: es, st, st', k + 1, e, h, he => by
    obtain ⟨s, h1, h2, h3, h4, h5⟩ := h
    obtain ⟨s1, s2, g1, g2, g3, g4, g5⟩ := h5.at (by simpa using he)
    exact ⟨s1, s2, ⟨s, h1, h2, h3, h4, g1⟩, g2, g3, g4, g5⟩
end
end Go.Proofs.Ytedofpnjmnkedaa.HL
namespace Go.Proofs.Ytedofpnjmnkedaa.HL
open Go.RowKit (Below)
open Go.Proofs
section
variable {w0 : World} {F M : Mem} {R : VP}
abbrev tDr : TypeId := 36
theorem newDr0 {P : Asn} (h : Holds w0 F M P) {K : VP} (hK : ∀ M' s', Mem.le M M' → Holds w0 F M' (star (SlKA 27 s' []) P) → K s'.v M') : (std PP w0).bsl 22 0 [] K M := by
  refine bsl_e (cells := #[]) Try.underlying22 W.e36 (by decide) (by kernel_rfl) fun b hb hw => ?_
  have l1 : Mem.le M (M.set b (.row (#[] : Array Value).toList tDr)) := Mem.le_set _ hb
  exact hK _ ⟨some ⟨b, 0, none⟩, 0, 0⟩ l1 (Holds.newSlk h l1 (SlK.new (n := 0) hb (Own.new hw) rfl))
def okE : Evt := ⟨⟨1, 0, 0, 0, 5, 0⟩, ⟨0, 7, 3, 5, 0, 0⟩, 0, 0⟩
def oddE : Evt := ⟨⟨1, 0, 0, 0, 5, 0⟩, ⟨0, 7, 0, 5, 0, 0⟩, 0, 0⟩
theorem small_wf {l : List Evt} (h : ∀ x ∈ evI l, 0 ≤ x ∧ x ≤ 1000) : ∀ x ∈ evI l, (Lit.int .i64 x).wf = true := wf_all fun x hx => by have := h x hx; unfold In64; omega
theorem JudgeNumbers_law (hR : ∀ M, R (.bool true) M) : C PP w0 Id.wJ_JudgeNumbers #[] R M := by
  apply wJ_JudgeNumbers.go
  intro pts H
  unfold wJ_JudgeNumbers.T
  have tail : ∀ (k : Nat) (l : SV) (M' : Mem), wJ_JudgeNumbers.L2 pts (k + 1) l 8 M' := by
    intro k l M'
    rw [H.L2]
    unfold wJ_JudgeNumbers.L2.T
    rw [bs_decide, if_neg (by decide)]
    have b1 : (std PP w0).bld tCmd [(0, .int .i64 1), (3, .int .i64 5)] = some (.agg #[.int .i64 1, .int .i64 0, .int .i64 0, .int .i64 0, .int .i64 5, .int .i64 0]) := by kernel_rfl
    have b2 : (std PP w0).bld 25 [(0, .int .i64 7), (1, .int .i64 3)] = some (.agg #[.int .i64 7, .int .i64 3]) := by kernel_rfl
    have b3 : (std PP w0).bld tRep [(1, .agg #[.int .i64 7, .int .i64 3]), (2, .int .i64 5)] = some (.agg #[.int .i64 0, .int .i64 7, .int .i64 3, .int .i64 5, .int .i64 0, .int .i64 0]) := by kernel_rfl
    have b4 : (std PP w0).bld tEv [(0, .agg #[.int .i64 1, .int .i64 0, .int .i64 0, .int .i64 0, .int .i64 5, .int .i64 0]), (1, .agg #[.int .i64 0, .int .i64 7, .int .i64 3, .int .i64 5, .int .i64 0, .int .i64 0])] = some (.agg #[.int .i64 1, .int .i64 0, .int .i64 0, .int .i64 0, .int .i64 5, .int .i64 0, .int .i64 0, .int .i64 7, .int .i64 3, .int .i64 5, .int .i64 0, .int .i64 0, .int .i64 0, .int .i64 0]) := by kernel_rfl
    simp only [b1, b2, b3, b4, ob_v, shA_v, shCons_v, shI_v, shNil_v]
    intro be hbe hbew
    have g1 := Holds.new (Holds.emp0 (w0 := w0) (M := M')) hbe hbew [.int .i64 0, .int .i64 0, .int .i64 0, .int .i64 0, .int .i64 0, .int .i64 0, .int .i64 0, .int .i64 0, .int .i64 0, .int .i64 0, .int .i64 0, .int .i64 0, .int .i64 0, .int .i64 0] tEv
    generalize M'.set be _ = M1 at g1 ⊢
    refine st_agg (vs := EvC okE) W.g34 g1.own1 (by simp [EvC]) (EvC_one _) ?_
    have g2 := g1.upd1 (cs' := over [.int .i64 0, .int .i64 0, .int .i64 0, .int .i64 0, .int .i64 0, .int .i64 0, .int .i64 0, .int .i64 0, .int .i64 0, .int .i64 0, .int .i64 0, .int .i64 0, .int .i64 0, .int .i64 0] 0 (EvC okE)) (e' := tEv)
    rw [over_all (cs := [.int .i64 0, .int .i64 0, .int .i64 0, .int .i64 0, .int .i64 0, .int .i64 0, .int .i64 0, .int .i64 0, .int .i64 0, .int .i64 0, .int .i64 0, .int .i64 0, .int .i64 0, .int .i64 0]) (vs := EvC okE) rfl] at g2 ⊢
    generalize M1.set be _ = M2 at g2 ⊢
    obtain ⟨F2, hF2, ow2, g3⟩ := Holds.freeze1 g2
    have le2 : ∀ {M3 : Mem}, Mem.le F2 M3 → (std PP w0).ld tEv ⟨be, 0, none⟩ M3 = some okE.v := fun h3 => boxEv (e := okE) (ow2.le h3) rfl
    rw [le2 g3.fr]
    unfold Evt.v okE
    simp only [ob_v, shA_v, shCons_v, shI_v, shNil_v]
    refine bsl_e (n := 2) (cells := #[.int .i64 1, .int .i64 0, .int .i64 0, .int .i64 0, .int .i64 5, .int .i64 0, .int .i64 0, .int .i64 7, .int .i64 3, .int .i64 5, .int .i64 0, .int .i64 0, .int .i64 0, .int .i64 0, .int .i64 1, .int .i64 0, .int .i64 0, .int .i64 0, .int .i64 5, .int .i64 0, .int .i64 0, .int .i64 7, .int .i64 3, .int .i64 5, .int .i64 0, .int .i64 0, .int .i64 0, .int .i64 0]) Try.underlying37 W.e34 (by decide) (by kernel_rfl) fun b2_ hb2 hbw2 => ?_
    have l3 : Mem.le M2 (M2.set b2_ (.row (#[.int .i64 1, .int .i64 0, .int .i64 0, .int .i64 0, .int .i64 5, .int .i64 0, .int .i64 0, .int .i64 7, .int .i64 3, .int .i64 5, .int .i64 0, .int .i64 0, .int .i64 0, .int .i64 0, .int .i64 1, .int .i64 0, .int .i64 0, .int .i64 0, .int .i64 5, .int .i64 0, .int .i64 0, .int .i64 7, .int .i64 3, .int .i64 5, .int .i64 0, .int .i64 0, .int .i64 0, .int .i64 0] : Array Value).toList tEv)) := Mem.le_set _ hb2
    have h4 : Holds w0 F2 (M2.set b2_ (.row (#[.int .i64 1, .int .i64 0, .int .i64 0, .int .i64 0, .int .i64 5, .int .i64 0, .int .i64 0, .int .i64 7, .int .i64 3, .int .i64 5, .int .i64 0, .int .i64 0, .int .i64 0, .int .i64 0, .int .i64 1, .int .i64 0, .int .i64 0, .int .i64 0, .int .i64 5, .int .i64 0, .int .i64 0, .int .i64 7, .int .i64 3, .int .i64 5, .int .i64 0, .int .i64 0, .int .i64 0, .int .i64 0] : Array Value).toList tEv)) (star (SlKA 14 ⟨some ⟨b2_, 0, none⟩, 2, 2⟩ (vI (evI [okE, okE]))) emp) := Holds.newSlk g3 l3 (SlK.new (n := 2) hb2 (Own.new hbw2) rfl)
    generalize M2.set b2_ _ = M3 at h4 l3 ⊢
    rw [shS_v]
    have sm1 : ∀ x ∈ evI [okE, okE], 0 ≤ x ∧ x ≤ 1000 := by decide
    have sm2 : ∀ x ∈ evI [oddE], 0 ≤ x ∧ x ≤ 1000 := by decide
    have sm3 : ∀ x ∈ evI [okE], 0 ≤ x ∧ x ≤ 1000 := by decide
    have rtw : RdF w0 M3 14 ⟨some ⟨b2_, 0, none⟩, 2, 2⟩ (evI [okE, okE]) := Holds.rdF (by decide) h4 (small_wf sm1) (by show 2 ≤ 1000000; decide)
    have f3 := h4.fr
    rw [le2 f3]
    unfold Evt.v okE
    simp only [ob_v, shA_v, shCons_v, shI_v, shNil_v]
    intro bo hbo hbow
    have g5 := Holds.new (Holds.emp0 (w0 := w0) (M := M3)) hbo hbow [.int .i64 0, .int .i64 0, .int .i64 0, .int .i64 0, .int .i64 0, .int .i64 0, .int .i64 0, .int .i64 0, .int .i64 0, .int .i64 0, .int .i64 0, .int .i64 0, .int .i64 0, .int .i64 0] tEv
    generalize M3.set bo _ = M4 at g5 ⊢
    refine st_agg (vs := EvC okE) W.g34 g5.own1 (by simp [EvC]) (EvC_one _) ?_
    have g6 := g5.upd1 (cs' := over [.int .i64 0, .int .i64 0, .int .i64 0, .int .i64 0, .int .i64 0, .int .i64 0, .int .i64 0, .int .i64 0, .int .i64 0, .int .i64 0, .int .i64 0, .int .i64 0, .int .i64 0, .int .i64 0] 0 (EvC okE)) (e' := tEv)
    rw [over_all (cs := [.int .i64 0, .int .i64 0, .int .i64 0, .int .i64 0, .int .i64 0, .int .i64 0, .int .i64 0, .int .i64 0, .int .i64 0, .int .i64 0, .int .i64 0, .int .i64 0, .int .i64 0, .int .i64 0]) (vs := EvC okE) rfl] at g6 ⊢
    generalize M4.set bo _ = M5 at g6 ⊢
    rw [show Addr.add (Addr.add (Addr.add ⟨bo, 0, none⟩ 6) 1) 1 = ⟨bo, 8, none⟩ from by rw [add_eq, add_eq, add_eq]]
    refine st_one W.c3 g6.own1 (by simp [EvC]) rfl rfl ?_
    have g7 : Holds w0 M3 (M5.set bo (.row ((EvC okE).set 8 (.int .i64 0)) tEv)) (star (row1 bo (EvC oddE) tEv) emp) := g6.upd1 (cs' := EvC oddE) (e' := tEv)
    generalize M5.set bo _ = M6 at g7 ⊢
    obtain ⟨F7, hF7, ow7, g8⟩ := Holds.freeze1 g7
    have l36 : Mem.le M3 M6 := g7.fr
    refine same_ok (rtw.le l36) (by decide) (.inr (by decide)) fun M7 l7 => ?_
    rw [shB_v, bs_true, boxEv (e := oddE) (ow7.le (Mem.le_trans g8.fr l7)) rfl]
    unfold Evt.v oddE
    simp only [ob_v, shA_v, shCons_v, shI_v, shNil_v]
    refine newEv (Holds.emp0 (w0 := w0) (M := M7)) oddE fun M8 so l8 h8 => ?_
    rw [shS_sv]
    have ro : RdF w0 M8 14 so (evI [oddE]) := Holds.rdF (by decide) (l := evI [oddE]) h8 (small_wf sm2) (by have := (slkCells h8).2.1; simp [EvC] at this; omega)
    refine same_ok ro (by decide) (.inr (by decide)) fun M9 l9 => ?_
    have l39 : Mem.le M3 M9 := Mem.le_trans l36 (Mem.le_trans l7 (Mem.le_trans l8 l9))
    rw [shB_v, bs_true, le2 (Mem.le_trans f3 l39)]
    unfold Evt.v okE
    simp only [ob_v, shA_v, shCons_v, shI_v, shNil_v]
    refine newEv (Holds.emp0 (w0 := w0) (M := M9)) okE fun M10 s1 l10 h10 => ?_
    rw [shS_sv]
    have r1 : RdF w0 M10 14 s1 (evI [okE]) := Holds.rdF (by decide) (l := evI [okE]) h10 (small_wf sm3) (by have := (slkCells h10).2.1; simp [EvC] at this; omega)
    refine same_ok r1 (by decide) (.inr (by decide)) fun M11 l11 => ?_
    rw [shB_v, bs_true]
    refine same_ok (s := ⟨none, 0, 0⟩) (l := []) RdF.nilE (by decide) (.inr (by decide)) fun M12 l12 => ?_
    rw [shB_v, bs_true]
    have l312 : Mem.le M3 M12 := Mem.le_trans l39 (Mem.le_trans l10 (Mem.le_trans l11 l12))
    refine same_ok (rtw.le l312) (by decide) (.inr (by decide)) fun M13 l13 => ?_
    rw [shB_v, bs_true]
    refine same_ok (rtw.le (Mem.le_trans l312 l13)) (by decide) (.inr (by decide)) fun M14 l14 => ?_
    rw [shB_v, bs_true]
    refine known26_ok fun M15 l15 => ?_
    rw [shB_v]
    exact hR M15
  have turns : ∀ (k t : Nat) (l : SV) (tl : List Int) (M' : Mem), t ≤ 8 → 8 < t + k → RdF w0 M' 27 l tl → l.n ≤ 40 → wJ_JudgeNumbers.L2 pts k l (t : Int) M' := by
    intro k
    induction k with
    | zero => intro t l tl M' h1 h2; omega
    | succ k ih =>
      intro t l tl M' h1 h2 hl hn
      by_cases ht : t = 8
      · subst ht
        exact tail k l M'
      · rw [H.L2]
        unfold wJ_JudgeNumbers.L2.T
        rw [bs_decide, if_pos (by omega)]
        have inner : ∀ (k' a : Nat) (M2 : Mem), 50 < a + k' * 3 → a ≤ 45 → RdF w0 M2 27 l tl → k' ≠ 0 → wJ_JudgeNumbers.L3 pts k k' l (t : Int) (a : Int) M2 := by
          intro k'
          induction k' with
          | zero => intro a M2 _ _ _ h0; exact absurd rfl h0
          | succ k' ih' =>
            intro a M2 ha ha2 hl2 _
            rw [H.L3]
            unfold wJ_JudgeNumbers.L3.T
            rw [bs_decide]
            split
            · rename_i hal
              refine newDr0 (Holds.emp0 (w0 := w0) (M := M2)) fun M3 d l3 h3 => ?_
              rw [shS_sv]
              have n0 : d.n = 0 := by have := (slkCells h3).2.1; simp at this; omega
              refine appK Try.underlying22 W.e36 h3 (news := vI tl) (by unfold vI; rw [List.length_map, hl2.len]) (hl2.cellsV l3) (hl2.nulV (by decide)) (vI_one _) (by decide) (by omega) fun M4 x h4 => ?_
              rw [shS_sv]
              rw [List.nil_append] at h4
              have xn : x.n = l.n := by
                have e1 := (slkCells h4).2.1
                have e2 := hl2.len
                unfold vI at e1
                rw [List.length_map] at e1
                omega
              have tin : In64 (t : Int) := by unfold In64; omega
              refine stK W.c3 h4 a rfl (by omega) (f := 11) (by decide) rfl rfl fun M5 h5 => ?_
              refine stK W.c2 h5 a rfl (by omega) (f := 12) (by decide) rfl rfl fun M6 h6 => ?_
              have hset : ((vI tl).set (a * 27 + 11) (.int .i64 (t : Int))).set (a * 27 + 12) (.int .i64 (w64 ((w64 ((t : Int) * 7)) - 29))) = vI ((tl.set (a * 27 + 11) (t : Int)).set (a * 27 + 12) (w64 ((w64 ((t : Int) * 7)) - 29))) := by
                unfold vI
                rw [List.map_set, List.map_set]
              rw [hset] at h6
              have okx : ∀ y ∈ (tl.set (a * 27 + 11) (t : Int)).set (a * 27 + 12) (w64 ((w64 ((t : Int) * 7)) - 29)), (Lit.int .i64 y).wf = true := fun y hy => by
                rcases List.mem_or_eq_of_mem_set hy with hy | rfl
                · rcases List.mem_or_eq_of_mem_set hy with hy | rfl
                  · exact hl2.wf y hy
                  · exact wf64 tin
                · exact wf64 (w64_range _)
              have rx : RdF w0 M6 27 x ((tl.set (a * 27 + 11) (t : Int)).set (a * 27 + 12) (w64 ((w64 ((t : Int) * 7)) - 29))) := Holds.rdF (by decide) h6 okx (by omega)
              refine ⟨rfl, by decide, ?_⟩
              refine made_ok (tame := False) (by decide) (by decide) (by decide) (fun i hi => ⟨_, rx.draw hi, fun hh => hh.elim⟩) fun M7 o ms l7 ho hml _ => ?_
              rw [shS_sv]
              refine same_ok ho (by omega) (.inl (by decide)) fun M8 l8 => ?_
              rw [shB_v, Bool.not_true, bs_false]
              have e3 : w64 ((a : Int) + 3) = ((a + 3 : Nat) : Int) := by rw [w64_in (by omega)]; omega
              rw [e3]
              have l28 : Mem.le M2 M8 := Mem.le_trans h6.fr (Mem.le_trans l7 l8)
              exact ih' (a + 3) M8 (by omega) (by omega) (hl2.le l28) (by omega)
            · rename_i hal
              have e1 : w64 ((t : Int) + 1) = ((t + 1 : Nat) : Int) := i64_succ (by omega)
              rw [e1]
              exact ih (t + 1) l tl M2 (by omega) (by omega) hl2 hn
        exact ⟨_, inner 20 0 M' (by omega) (by omega) hl (by decide)⟩
  have key : ∀ (k i : Nat) (l : SV) (tl : List Int) (M' : Mem), i ≤ 40 → 40 < i + k → tl.length = i * 27 → (∀ x ∈ tl, In64 x) → Holds w0 M M' (star (SlKA 27 l (vI tl)) emp) → wJ_JudgeNumbers.L1 pts k l (i : Int) M' := by
    intro k
    induction k with
    | zero => intro i l tl M' h1 h2; omega
    | succ k ih =>
      intro i0 l tl M' h1 h2 hlen hok g
      have hln : l.n = i0 := by
        have := (slkCells g).2.1
        unfold vI at this
        rw [List.length_map, hlen] at this; omega
      rw [H.L1]
      unfold wJ_JudgeNumbers.L1.T
      rw [bs_decide]
      split
      · rename_i hi
        have iin : In64 (i0 : Int) := by unfold In64; omega
        rw [i64_succ (by omega)]
        generalize hii : (i0 : Int) = i at iin hi
        refine ⟨rfl, by decide, rfl, by decide, rfl, by decide, rfl, by decide, ?_⟩
        have b1 : (std PP w0).bld tX [(0, .int .i64 (Int.tmod (w64 (i * 7)) 11)), (1, .int .i64 (Int.tmod i 2)), (2, .int .i64 (Int.tmod i 13)), (3, .int .i64 i), (4, .int .i64 (Int.tmod i 9))] = some (.agg #[.int .i64 (Int.tmod (w64 (i * 7)) 11), .int .i64 (Int.tmod i 2), .int .i64 (Int.tmod i 13), .int .i64 i, .int .i64 (Int.tmod i 9), .int .i64 0, .int .i64 0, .int .i64 0, .int .i64 0, .int .i64 0, .int .i64 0]) := by
          generalize Int.tmod (w64 (i * 7)) 11 = y0
          generalize Int.tmod i 2 = y1
          generalize Int.tmod i 13 = y2
          generalize Int.tmod i 9 = y3
          kernel_rfl
        have b2 : (std PP w0).bld tDr [(0, .agg #[.int .i64 (Int.tmod (w64 (i * 7)) 11), .int .i64 (Int.tmod i 2), .int .i64 (Int.tmod i 13), .int .i64 i, .int .i64 (Int.tmod i 9), .int .i64 0, .int .i64 0, .int .i64 0, .int .i64 0, .int .i64 0, .int .i64 0])] = some (.agg #[.int .i64 (Int.tmod (w64 (i * 7)) 11), .int .i64 (Int.tmod i 2), .int .i64 (Int.tmod i 13), .int .i64 i, .int .i64 (Int.tmod i 9), .int .i64 0, .int .i64 0, .int .i64 0, .int .i64 0, .int .i64 0, .int .i64 0, .int .i64 0, .int .i64 0, .int .i64 0, .int .i64 0, .int .i64 0, .int .i64 0, .int .i64 0, .int .i64 0, .int .i64 0, .int .i64 0, .int .i64 0, .int .i64 0, .int .i64 0, .int .i64 0, .int .i64 0, .int .i64 0]) := by
          generalize Int.tmod (w64 (i * 7)) 11 = y0
          generalize Int.tmod i 2 = y1
          generalize Int.tmod i 13 = y2
          generalize Int.tmod i 9 = y3
          kernel_rfl
        rw [b1]
        simp only [ob_v, shA_v, shCons_v, shI_v, shNil_v]
        rw [b2]
        simp only [ob_v, shA_v, shCons_v, shI_v, shNil_v]
        refine bsl_e (n := 1) (cells := #[.int .i64 (Int.tmod (w64 (i * 7)) 11), .int .i64 (Int.tmod i 2), .int .i64 (Int.tmod i 13), .int .i64 i, .int .i64 (Int.tmod i 9), .int .i64 0, .int .i64 0, .int .i64 0, .int .i64 0, .int .i64 0, .int .i64 0, .int .i64 0, .int .i64 0, .int .i64 0, .int .i64 0, .int .i64 0, .int .i64 0, .int .i64 0, .int .i64 0, .int .i64 0, .int .i64 0, .int .i64 0, .int .i64 0, .int .i64 0, .int .i64 0, .int .i64 0, .int .i64 0]) Try.underlying22 W.e36 (by decide) (by
          generalize Int.tmod (w64 (i * 7)) 11 = y0
          generalize Int.tmod i 2 = y1
          generalize Int.tmod i 13 = y2
          generalize Int.tmod i 9 = y3
          kernel_rfl) fun b hb hbw => ?_
        have l2 : Mem.le M' (M'.set b (.row (#[.int .i64 (Int.tmod (w64 (i * 7)) 11), .int .i64 (Int.tmod i 2), .int .i64 (Int.tmod i 13), .int .i64 i, .int .i64 (Int.tmod i 9), .int .i64 0, .int .i64 0, .int .i64 0, .int .i64 0, .int .i64 0, .int .i64 0, .int .i64 0, .int .i64 0, .int .i64 0, .int .i64 0, .int .i64 0, .int .i64 0, .int .i64 0, .int .i64 0, .int .i64 0, .int .i64 0, .int .i64 0, .int .i64 0, .int .i64 0, .int .i64 0, .int .i64 0, .int .i64 0] : Array Value).toList tDr)) := Mem.le_set _ hb
        have h5 := Holds.newSlk (k := 27) (s := ⟨some ⟨b, 0, none⟩, 1, 1⟩) (l := [.int .i64 (Int.tmod (w64 (i * 7)) 11), .int .i64 (Int.tmod i 2), .int .i64 (Int.tmod i 13), .int .i64 i, .int .i64 (Int.tmod i 9), .int .i64 0, .int .i64 0, .int .i64 0, .int .i64 0, .int .i64 0, .int .i64 0, .int .i64 0, .int .i64 0, .int .i64 0, .int .i64 0, .int .i64 0, .int .i64 0, .int .i64 0, .int .i64 0, .int .i64 0, .int .i64 0, .int .i64 0, .int .i64 0, .int .i64 0, .int .i64 0, .int .i64 0, .int .i64 0]) g l2 (SlK.new (n := 1) hb (Own.new hbw) rfl)
        generalize M'.set b _ = M2 at h5 l2 ⊢
        rw [shS_v]
        have e5 := slkCells h5
        refine appK (x := ⟨some ⟨b, 0, none⟩, 1, 1⟩) Try.underlying22 W.e36 h5.rot e5.2.1 e5.1 e5.2.2 (vI_one [Int.tmod (w64 (i * 7)) 11, Int.tmod i 2, Int.tmod i 13, i, Int.tmod i 9, 0, 0, 0, 0, 0, 0, 0, 0, 0, 0, 0, 0, 0, 0, 0, 0, 0, 0, 0, 0, 0, 0]) (by decide) (by simp only; omega) fun M6 t6 h6 => ?_
        rw [shS_sv]
        have hvv : vI tl ++ ([.int .i64 (Int.tmod (w64 (i * 7)) 11), .int .i64 (Int.tmod i 2), .int .i64 (Int.tmod i 13), .int .i64 i, .int .i64 (Int.tmod i 9), .int .i64 0, .int .i64 0, .int .i64 0, .int .i64 0, .int .i64 0, .int .i64 0, .int .i64 0, .int .i64 0, .int .i64 0, .int .i64 0, .int .i64 0, .int .i64 0, .int .i64 0, .int .i64 0, .int .i64 0, .int .i64 0, .int .i64 0, .int .i64 0, .int .i64 0, .int .i64 0, .int .i64 0, .int .i64 0] : List Value) = vI (tl ++ [Int.tmod (w64 (i * 7)) 11, Int.tmod i 2, Int.tmod i 13, i, Int.tmod i 9, 0, 0, 0, 0, 0, 0, 0, 0, 0, 0, 0, 0, 0, 0, 0, 0, 0, 0, 0, 0, 0, 0]) := by unfold vI; rw [List.map_append]; rfl
        rw [hvv] at h6
        have hlz : ([Int.tmod (w64 (i * 7)) 11, Int.tmod i 2, Int.tmod i 13, i, Int.tmod i 9, 0, 0, 0, 0, 0, 0, 0, 0, 0, 0, 0, 0, 0, 0, 0, 0, 0, 0, 0, 0, 0, 0] : List Int).length = 27 := rfl
        have h7 : Holds w0 M M6 (star (SlKA 27 t6 (vI (tl ++ [Int.tmod (w64 (i * 7)) 11, Int.tmod i 2, Int.tmod i 13, i, Int.tmod i 9, 0, 0, 0, 0, 0, 0, 0, 0, 0, 0, 0, 0, 0, 0, 0, 0, 0, 0, 0, 0, 0, 0]))) emp) := by
          obtain ⟨F1, k1, _, k2⟩ := h6.last
          exact k2 _ _ k1.right
        refine ih (i0 + 1) t6 (tl ++ [Int.tmod (w64 (i * 7)) 11, Int.tmod i 2, Int.tmod i 13, i, Int.tmod i 9, 0, 0, 0, 0, 0, 0, 0, 0, 0, 0, 0, 0, 0, 0, 0, 0, 0, 0, 0, 0, 0, 0]) M6 (by omega) (by omega) (by rw [List.length_append, hlz, hlen]; omega) (fun x hx => ?_) h7
        rcases List.mem_append.1 hx with hx | hx
        · exact hok x hx
        · have hmem : x ∈ [Int.tmod (w64 (i * 7)) 11, Int.tmod i 2, Int.tmod i 13, i, Int.tmod i 9] ∨ x = 0 := by
            rcases List.mem_append.1 (show x ∈ [Int.tmod (w64 (i * 7)) 11, Int.tmod i 2, Int.tmod i 13, i, Int.tmod i 9] ++ List.replicate 22 0 from hx) with hh | hh
            · exact .inl hh
            · exact .inr (List.eq_of_mem_replicate hh)
          rcases hmem with hh | rfl
          · simp only [List.mem_cons, List.not_mem_nil, or_false] at hh
            rcases hh with rfl | rfl | rfl | rfl | rfl
            · exact tmod_in (w64_range _) (by decide)
            · exact tmod_in iin (by decide)
            · exact tmod_in iin (by decide)
            · exact iin
            · exact tmod_in iin (by decide)
          · exact z64
      · rename_i hi
        have hrd : RdF w0 M' 27 l tl := Holds.rdF (by decide) g (wf_all hok) (by omega)
        exact ⟨9, turns 9 0 l tl M' (by decide) (by decide) hrd (by omega)⟩
  exact ⟨_, key 41 0 ⟨none, 0, 0⟩ [] M (by decide) (by decide) rfl (fun x hx => by cases hx) (Holds.nilSlk (k := 27) (Holds.emp0 (w0 := w0) (M := M)))⟩
end
end Go.Proofs.Ytedofpnjmnkedaa.HL
