/-
  MdA: rows of entries: the first one of a kind; one that is taken out; one that is put in.
-/
import Derived.Test.YtgnfbodlpolibaaEnB
import Derived.Test.YtgnfbodlpolibaaHlX
set_option linter.unusedVariables false
set_option linter.unusedSimpArgs false
set_option maxRecDepth 100000
namespace Go.Proofs.Ytgnfbodlpolibaa.HL
open Go.RowKit (Below)
open Go.Proofs

theorem esV_erase (l : List Ent) (i : Nat) : (esV l).take (i * 2) ++ (esV l).drop ((i + 1) * 2) = esV (l.eraseIdx i) := by
  rw [← esV_take, ← esV_drop, ← esV_append, List.eraseIdx_eq_take_drop_succ]

section
variable {w0 : World} {M M0 F : Mem} {R : Value → Mem → Prop}

theorem Holds.lenE {s : SV} {l : List Ent} {Q : Asn} (h : Holds w0 F M (star (Es s l) Q)) : s.n = l.length := h.rdE.len

theorem IdxE_ok {s : SV} {l : List Ent} {kf : FuncId × Array Value} {p : Ent → Bool} (hs : RdE w0 M s l) (hb : l.length ≤ 1000000)
    (hp : ∀ (e : Ent) (M' : Mem) (R' : Value → Mem → Prop), e ∈ l → Mem.le M M' → (∀ M'', Mem.le M' M'' → R' (.bool (p e)) M'') → C PP w0 kf.1 ((([.agg #[.int .i64 e.1, .int .i64 e.2]] : List Value) ++ kf.2.toList).toArray) R' M')
    (h : ∀ M', Mem.le M M' → R (.int .i64 (match l.findIdx? p with | some i => (i : Int) | none => -1)) M') : C PP w0 Id.slices_IndexFuncapi_Entry_api_Entry #[SV.v s, .func (.func kf.1) #[] kf.2] R M := by
  refine slices_IndexFuncapi_Entry_api_Entry.go _ s kf ?_
  intro pts H
  unfold slices_IndexFuncapi_Entry_api_Entry.T
  have hsl := hs.len
  have key : ∀ (k i : Nat) (M' : Mem), i ≤ l.length → l.length < i + k → Mem.le M M' → (∀ j x, j < i → l[j]? = some x → p x = false) → slices_IndexFuncapi_Entry_api_Entry.L1 pts k s kf ((s.n : Nat) : Int) (i : Int) M' := by
    intro k
    induction k with
    | zero => intro i M' h1 h2; omega
    | succ k ih =>
      intro i M' hi hk hl hno
      rw [H.L1]
      unfold slices_IndexFuncapi_Entry_api_Entry.L1.T
      rw [bs_decide]
      split
      · have hlt : i < l.length := by omega
        have ex := List.getElem?_eq_getElem hlt
        have hm := List.getElem_mem hlt
        generalize l[i] = x at ex hm
        refine rdE hs hl i rfl ex ?_
        refine hp x M' _ hm hl fun M2 l2 => ?_
        rw [shB_v]
        cases hpx : p x with
        | true =>
          rw [bs_true]
          have hf : l.findIdx? p = some i := by
            rw [List.findIdx?_eq_some_iff_getElem]
            obtain ⟨h1, h2⟩ := List.getElem?_eq_some_iff.1 ex
            refine ⟨h1, by rw [h2]; exact hpx, fun j hj => ?_⟩
            have := hno j _ hj (List.getElem?_eq_getElem (by omega))
            simp [this]
          have := h M2 (Mem.le_trans hl l2)
          rw [hf] at this; exact this
        | false =>
          rw [bs_false, i64_succ (by omega)]
          refine ih (i + 1) M2 (by omega) (by omega) (Mem.le_trans hl l2) fun j y hj hy => ?_
          by_cases hji : j = i
          · subst hji; rw [ex] at hy; cases hy; exact hpx
          · exact hno j y (by omega) hy
      · have hf : l.findIdx? p = none := by
          rw [List.findIdx?_eq_none_iff]
          intro x hx
          obtain ⟨j, hj⟩ := List.getElem?_of_mem hx
          have := (List.getElem?_eq_some_iff.1 hj).1
          exact hno j x (by omega) hj
        have := h M' hl
        rw [hf] at this; exact this
  exact ⟨l.length + 1, key (l.length + 1) 0 M (by omega) (by omega) (Mem.le_refl _) fun j x hj => absurd hj (by omega)⟩

theorem DelE_ok {Q : Asn} {s : SV} {l : List Ent} (h : Holds w0 F M (star (Es s l) Q)) {i : Nat} (hi : i < l.length) (hb : l.length ≤ 100000) (hR : ∀ M' s', Holds w0 F M' (star (Es s' (l.eraseIdx i)) Q) → R s'.v M') :
    C PP w0 Id.slices_Deleteapi_Entry_api_Entry #[SV.v s, .int .i64 (i : Int), .int .i64 ((i + 1 : Nat) : Int)] R M := by
  have hsn := h.lenE
  have hcap := h.rdE.cap
  apply slices_Deleteapi_Entry_api_Entry.go
  unfold slices_Deleteapi_Entry_api_Entry.T
  refine ⟨⟨by omega, by omega, by omega, by omega⟩, ?_⟩
  rw [bs_beq, if_neg (by omega)]
  refine ⟨⟨by omega, by omega, by omega⟩, ⟨by omega, by omega, by omega⟩, ?_⟩
  refine del_core (k := 2) Try.underlying36 W.e40 (by omega) h (by omega) (esV_one l) (fun v hv => ?_) (by omega) fun M' s' h' hn' => ?_
  · have : zeros (.agg #[.int .i64 0, .int .i64 0]) 1 = [.int .i64 0, .int .i64 0] := by kernel_rfl
    rw [this] at hv
    simp only [List.mem_cons, List.not_mem_nil, or_false] at hv
    rcases hv with rfl | rfl <;> rfl
  · rw [esV_erase] at h'
    exact hR M' s' h'

theorem RdE.tail {s : SV} {l : List Ent} (h : RdE w0 M s l) {i : Nat} (hi : i ≤ l.length) : Cells w0 M (if s.c = i then s.a else s.a.map (·.add (i * 2))) (esV (l.drop i)) := fun j v hj => by
  have h1 := h.cells M (Mem.le_refl _) (i * 2 + j) v (by rw [esV_drop, List.getElem?_drop] at hj; exact hj)
  obtain ⟨ad, ea, hr⟩ := h1
  have hjl := (List.getElem?_eq_some_iff.1 hj).1
  rw [esV_len, List.length_drop] at hjl
  have hlen := h.len
  have hcap := h.cap
  rw [if_neg (by omega), ea]
  exact ⟨_, rfl, by rw [add_add]; exact hr⟩

theorem InsE_ok {Q : Asn} {s x : SV} {l : List Ent} {e : Ent} (h : Holds w0 F M (star (Es s l) (star (Es x [e]) Q))) {i : Nat} (hi : i ≤ l.length) (hb : l.length ≤ 100000) (hR : ∀ M' s', Holds w0 F M' (star (Es s' (l.take i ++ e :: l.drop i)) (star (Es x [e]) Q)) → R s'.v M') :
    C PP w0 Id.slices_Insertapi_Entry_api_Entry #[SV.v s, .int .i64 (i : Int), SV.v x] R M := by
  have hsn := h.lenE
  have hrs := h.rdE
  have hcap := hrs.cap
  have hrx := h.right.rdE
  have hxn : x.n = 1 := hrx.len
  apply slices_Insertapi_Entry_api_Entry.go
  unfold slices_Insertapi_Entry_api_Entry.T
  refine ⟨⟨by omega, by omega, by omega⟩, ?_⟩
  rw [bs_beq, if_neg (by omega), bs_beq]
  split
  · rename_i hie
    have hil : i = l.length := by omega
    refine appE h hrx (by simp; omega) fun M1 s1 h1 => ?_
    rw [shS_sv]
    refine hR M1 s1 ?_
    rw [hil, List.take_length, List.drop_length]
    exact h1
  · rename_i hie
    have hil : i < l.length := by omega
    have w1 : w64 (((s.n : Nat) : Int) + ((x.n : Nat) : Int)) = ((l.length + 1 : Nat) : Int) := by rw [w64_in (by omega)]; omega
    have w2 : w64 ((i : Int) + ((x.n : Nat) : Int)) = ((i + 1 : Nat) : Int) := by rw [w64_in (by omega)]; omega
    have w3 : w64 (((l.length + 1 : Nat) : Int) - (i : Int)) = ((l.length + 1 - i : Nat) : Int) := by rw [w64_in (by omega)]; omega
    have adz : ∀ a : Addr, a.add 0 = a := fun a => by simp [Addr.add]
    have hz : (if s.c = (0 : Int).toNat then s.a else s.a.map (·.add ((0 : Int).toNat * 2))) = s.a := by
      split
      · rfl
      · cases s.a with
        | none => rfl
        | some a => show some (a.add 0) = some a; rw [adz]
    have t0 : (0 : Int).toNat = 0 := rfl
    simp only [w1, w2, w3, hz]
    rw [bs_decide]
    have hx1 : x.a ≠ none := fun e9 => by have := hrx.nul e9; omega
    have hxc : Cells w0 M x.a (esV [e]) := hrx.cells M (Mem.le_refl _)
    split
    · rename_i hgr
      refine ⟨⟨by omega, by omega, by omega⟩, ?_⟩
      simp only [t0, Int.toNat_natCast, Nat.sub_zero]
      obtain ⟨F1, hsl, hle, back⟩ := h.slk
      obtain ⟨inf, hinf, hzz, hsz, hzs, hb1, hb2⟩ := W.e40
      refine appz_ok (s := ⟨s.a, i, s.c⟩) (n := l.length + 1 - i) (olds := esV (l.take i)) Try.underlying36 Try.underlying3 hinf hzz (by rw [esV_len, List.length_take, hsz]; show min i l.length * 2 = i * 2; omega) (fun j v hj => ?_) (fun e9 => ?_) hb1 ?_ (by show s.c < i + (l.length + 1 - i); omega) (by rw [hsz]; omega) fun b c hb0 hw0 hc => ?_
      · have hjl := (List.getElem?_eq_some_iff.1 hj).1
        refine hrs.cells M (Mem.le_refl _) j v ?_
        rw [esV_take, List.getElem?_take_of_lt (by rw [esV_len, List.length_take] at hjl; omega)] at hj
        exact hj
      · have := hrs.nul e9
        show i = 0
        omega
      · show (i + (l.length + 1 - i)) * inf.bytes ≤ _
        exact Nat.le_trans (Nat.mul_le_mul (show i + (l.length + 1 - i) ≤ 200000 by omega) hb2) (by decide)
      · show shS (Value.slice (some ⟨b, 0, none⟩) (i + (l.length + 1 - i)) c) _
        have hlen1 : i + (l.length + 1 - i) = l.length + 1 := by omega
        have hc' : l.length + 1 ≤ c := by have : i + (l.length + 1 - i) ≤ c := hc; omega
        rw [hlen1, shS_v]
        simp only
        refine ⟨⟨by omega, by omega, by omega⟩, ?_⟩
        have hzlen : ∀ n, (zeros (.agg #[.int .i64 0, .int .i64 0]) n).length = n * 2 := fun n => by rw [zeros_length]; rfl
        have hH1 : Holds w0 F _ (star (SlKA 2 ⟨some ⟨b, 0, none⟩, l.length + 1, c⟩ (esV (l.take i) ++ zeros (.agg #[.int .i64 0, .int .i64 0]) (l.length + 1 - i))) (star (Es s l) (star (Es x [e]) Q))) := h.newSlk (M' := M.set b (.row (esV (l.take i) ++ zeros (.agg #[.int .i64 0, .int .i64 0]) (l.length + 1 - i) ++ zeros (.agg #[.int .i64 0, .int .i64 0]) (c - (i + (l.length + 1 - i)))) 40)) (Mem.le_set _ hb0) (.inr ⟨b, _, _, rfl, by
          rw [List.length_append, esV_len, List.length_take, hzlen]; show min i l.length * 2 + (l.length + 1 - i) * 2 = (l.length + 1) * 2; omega, by
          rw [List.length_append, esV_len, List.length_take, hzlen, hzlen]; show min i l.length * 2 + (l.length + 1 - i) * 2 + (c - (i + (l.length + 1 - i))) * 2 = c * 2; omega, hb0, Own.new hw0⟩)
        rw [hlen1] at hH1
        generalize M.set b _ = M1 at hH1 ⊢
        have hz2 : zeros (.agg #[.int .i64 0, .int .i64 0]) (l.length + 1 - i) = .int .i64 0 :: .int .i64 0 :: zeros (.agg #[.int .i64 0, .int .i64 0]) (l.length - i) := by
          apply List.ext_getElem?
          intro j
          have hg : ∀ n j, (zeros (.agg #[.int .i64 0, .int .i64 0]) n)[j]? = if j < n * 2 then some (.int .i64 0) else none := fun n j => by
            split
            · rename_i hj
              rw [List.getElem?_eq_getElem (by rw [hzlen]; exact hj)]
              simp only [zeros, Builtin.zeroCells, Value.cells, Array.getElem_toList, Array.getElem_map, Array.getElem_range, Option.some.injEq]
              have : j % 2 = 0 ∨ j % 2 = 1 := by omega
              rcases this with h9 | h9 <;> simp [h9]
            · rename_i hj
              rw [List.getElem?_eq_none (by rw [hzlen]; omega)]
          rw [hg]
          match j with
          | 0 => rw [if_pos (by omega)]; rfl
          | 1 => rw [if_pos (by omega)]; rfl
          | j + 2 =>
            rw [List.getElem?_cons_succ, List.getElem?_cons_succ, hg]
            by_cases h9 : j < (l.length - i) * 2
            · rw [if_pos (by omega), if_pos h9]
            · rw [if_neg (by omega), if_neg h9]
        rw [hz2] at hH1
        have tk : i * 2 = (esV (l.take i)).length := by rw [esV_len, List.length_take]; omega
        have hrx1 := (hH1.right.right).rdE
        refine cpyK (d := ⟨some ⟨b, 0, none⟩, l.length + 1, c⟩) (x := x) (lo := i) (news := esV [e]) hH1 (by show i ≤ l.length + 1; omega) 1 (by show 1 = min x.n (l.length + 1 - i); omega) rfl (hrx1.cells _ (Mem.le_refl _)) (fun e9 => absurd e9 hx1) (esV_one _) fun M2 hH2 => ?_
        have e1 : over (esV (l.take i) ++ .int .i64 0 :: .int .i64 0 :: zeros (.agg #[.int .i64 0, .int .i64 0]) (l.length - i)) (i * 2) (esV [e]) = esV (l.take i) ++ (esV [e] ++ zeros (.agg #[.int .i64 0, .int .i64 0]) (l.length - i)) := by
          have := over_mid (esV (l.take i)) [.int .i64 0, .int .i64 0] (zeros (.agg #[.int .i64 0, .int .i64 0]) (l.length - i)) (esV [e]) rfl tk
          simpa using this
        rw [e1] at hH2
        rw [shI_v]
        refine ⟨⟨by omega, by omega, by omega⟩, ⟨by omega, by omega, by omega⟩, ?_⟩
        have hrs2 := hH2.right.rdE
        have e2 : (Value.slice (if s.c = i then s.a else s.a.map (·.add (i * 2))) (s.n - i) (s.c - i)) = SV.v ⟨(if s.c = i then s.a else s.a.map (·.add (i * 2))), s.n - i, s.c - i⟩ := rfl
        rw [e2]
        refine cpyK (d := ⟨some ⟨b, 0, none⟩, l.length + 1, c⟩) (lo := i + 1) (news := esV (l.drop i)) hH2 (by show i + 1 ≤ l.length + 1; omega) (l.length - i) (by show l.length - i = min (s.n - i) (l.length + 1 - (i + 1)); omega) (by rw [esV_len, List.length_drop]) (hrs2.tail (by omega)) (fun e9 => ?_) (esV_one _) fun M3 hH3 => ?_
        · simp only at e9
          rw [if_neg (by omega)] at e9
          have : s.a = none := by simpa using e9
          have := hrs.nul this; omega
        · rw [shI_v]
          have e3 : over (esV (l.take i) ++ (esV [e] ++ zeros (.agg #[.int .i64 0, .int .i64 0]) (l.length - i))) ((i + 1) * 2) (esV (l.drop i)) = esV (l.take i ++ e :: l.drop i) := by
            have := over_mid (esV (l.take i) ++ esV [e]) (zeros (.agg #[.int .i64 0, .int .i64 0]) (l.length - i)) [] (esV (l.drop i)) (by rw [esV_len, hzlen, List.length_drop]) (o := (i + 1) * 2) (by rw [List.length_append, ← tk]; show (i + 1) * 2 = i * 2 + 2; omega)
            rw [List.append_nil, List.append_assoc, List.append_nil] at this
            rw [this, esV_append, List.append_assoc]
            rfl
          rw [e3] at hH3
          refine hR M3 ⟨some ⟨b, 0, none⟩, l.length + 1, c⟩ ?_
          obtain ⟨r, ⟨r1, r2, rfl, q1, r3, r4, rfl, q2, q3⟩, q4⟩ := hH3
          exact ⟨r1 ++ r4, ⟨r1, r4, rfl, q1, q3⟩, (q4.perm (r' := (r1 ++ r4) ++ r3) (by rw [List.append_assoc]; exact (List.perm_append_comm).append_left r1)).drop⟩
    · rename_i hgr
      refine ⟨⟨by omega, by omega, by omega⟩, ⟨by omega, by omega, by omega⟩, ?_⟩
      simp only [t0, Int.toNat_natCast, Nat.sub_zero]
      have hsa : s.a ≠ none := fun e9 => by have := hrs.nul e9; omega
      -- the two blocks
      have hov : ∀ R' : Value → Mem → Prop, R' (.bool false) M → C PP w0 Id.slices_overlapsapi_Entry #[SV.v x, .slice (if s.c = i + 1 then s.a else s.a.map (·.add ((i + 1) * 2))) (l.length + 1 - (i + 1)) (s.c - (i + 1))] R' M := fun R' hR' => by
        obtain ⟨r, ⟨r1, r2, rfl, q1, r3, r4, rfl, q2, q3⟩, q4⟩ := h
        rcases q1 with ⟨rfl, _⟩ | ⟨b, rest, e9, ha, hl, hl2, rfl⟩
        · exact absurd rfl hsa
        · rcases q2 with ⟨rfl, _⟩ | ⟨b2, rest2, e92, ha2, hl3, hl4, rfl⟩
          · exact absurd rfl hx1
          · have o1 := q4.own (b := b) (cs := esV l ++ rest) (e := e9) (by simp)
            have o2 := q4.own (b := b2) (cs := esV [e] ++ rest2) (e := e92) (by simp)
            have hne : b2 ≠ b := fun e0 => by
              have := q4.nd
              simp only [List.cons_append, List.nil_append, List.map_cons, List.nodup_cons, List.mem_cons, not_or] at this
              exact this.1.1 e0.symm
            rw [ha, if_neg (by omega)]
            simp only [SV.v, ha2, Option.map_some, add_eq]
            exact overlaps_ok (size := 2) (tS := 36) (tR := 4) (e := 40) (show PP.funcs[Id.slices_overlapsapi_Entry]? = some Try.f84 from Try.func84) (by kernel_rfl) (by kernel_rfl) (by kernel_rfl) (by kernel_rfl) Try.underlying36 (by kernel_rfl) hne o2 o1 (by
              intro e0
              have := congrArg List.length e0
              rw [List.length_append, esV_len] at this
              simp only [List.length_nil] at this
              omega) hR'
      refine hov _ ?_
      rw [shB_v, Bool.not_false, bs_true]
      refine ⟨⟨by omega, by omega, by omega⟩, ⟨by omega, by omega, by omega⟩, ?_⟩
      have hgrow : ∃ B : List Value, B.length = 2 ∧ Holds w0 F M (star (SlKA 2 ⟨s.a, l.length + 1, s.c⟩ (esV l ++ B)) (star (Es x [e]) Q)) := by
        obtain ⟨r, ⟨r1, r2, rfl, q1, q2⟩, q3⟩ := h
        obtain ⟨B, hB, hg⟩ := SlKA.grow (n := l.length + 1) q1 (by omega) (by omega) hsa
        refine ⟨B, ?_, _, ⟨r1, r2, rfl, hg, q2⟩, q3⟩
        rw [List.length_append, esV_len] at hB; omega
      obtain ⟨B, hB, hH1⟩ := hgrow
      have e2 : (Value.slice (if s.c = i then s.a else s.a.map (·.add (i * 2))) (l.length + 1 - i) (s.c - i)) = SV.v ⟨(if s.c = i then s.a else s.a.map (·.add (i * 2))), l.length + 1 - i, s.c - i⟩ := rfl
      rw [e2]
      refine cpyK (d := ⟨s.a, l.length + 1, s.c⟩) (lo := i + 1) (news := esV (l.drop i)) hH1 (by show i + 1 ≤ l.length + 1; omega) (l.length - i) (by show l.length - i = min (l.length + 1 - i) (l.length + 1 - (i + 1)); omega) (by rw [esV_len, List.length_drop]) (hrs.tail (by omega)) (fun e9 => ?_) (esV_one _) fun M2 hH2 => ?_
      · simp only at e9
        rw [if_neg (by omega)] at e9
        exact absurd (by simpa using e9) hsa
      · rw [shI_v]
        refine ⟨⟨by omega, by omega, by omega⟩, ?_⟩
        have hl1 : l.drop i = l[i] :: l.drop (i + 1) := List.drop_eq_getElem_cons hil
        have e3 : over (esV l ++ B) ((i + 1) * 2) (esV (l.drop i)) = esV (l.take i) ++ (eV l[i] ++ esV (l.drop i)) := by
          have h9 : esV l ++ B = esV (l.take (i + 1)) ++ ((esV (l.drop (i + 1)) ++ B) ++ []) := by
            rw [List.append_nil, ← List.append_assoc, ← esV_append, List.take_append_drop]
          rw [h9, over_mid (esV (l.take (i + 1))) (esV (l.drop (i + 1)) ++ B) [] (esV (l.drop i)) (by rw [List.length_append, esV_len, esV_len, List.length_drop, List.length_drop, hB]; omega) (by rw [esV_len, List.length_take]; omega), List.append_nil, ← List.append_assoc]
          congr 1
          rw [List.take_succ_eq_append_getElem hil, esV_append]
          simp [esV]
        rw [e3] at hH2
        have hrx2 := hH2.right.rdE
        refine cpyK (d := ⟨s.a, l.length + 1, s.c⟩) (x := x) (lo := i) (news := esV [e]) hH2 (by show i ≤ l.length + 1; omega) 1 (by show 1 = min x.n (l.length + 1 - i); omega) rfl (hrx2.cells _ (Mem.le_refl _)) (fun e9 => absurd e9 hx1) (esV_one _) fun M3 hH3 => ?_
        rw [shI_v]
        have e4 : over (esV (l.take i) ++ (eV l[i] ++ esV (l.drop i))) (i * 2) (esV [e]) = esV (l.take i ++ e :: l.drop i) := by
          rw [over_mid (esV (l.take i)) (eV l[i]) (esV (l.drop i)) (esV [e]) rfl (by rw [esV_len, List.length_take]; omega), esV_append]
          rfl
        rw [e4] at hH3
        exact hR M3 ⟨s.a, l.length + 1, s.c⟩ hH3

end
end Go.Proofs.Ytgnfbodlpolibaa.HL
