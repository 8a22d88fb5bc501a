/-
  Put together of many texts: HlA HlB HlC HlD HlE HlF HlH HlI HlS HlK HlX PoM OrM EnM HlL HlG GenId GenW Gen0 Gen1 Gen2 Gen3 Gen4 Gen5 Gen6 Gen7 Gen8 Gen9 Gen10 Gen11 Gen12 BkA OrA HlQ CmA EnA EnB MdA MdB EnC JuM MdS MpA JuA JuB JuC JuD JuE JuF JuG JuH DrM JuI BlM BiA BuA OrD OrE OrF JuJ FlA LmB JuK JuL JuN PoA PoB PoC DrA DrB DrC DrD DrL JuP JuQ JuR JuS JuT JuU HlR.
-/
import Derived.Test.YtedofpnjmnkedaaP17
set_option linter.unusedVariables false
set_option linter.unusedSimpArgs false
set_option maxRecDepth 100000
namespace Go.Proofs.Ytedofpnjmnkedaa.HL
open Go.RowKit (Below)
open Go.Proofs
section
variable {w0 : World} {M F : Mem} {R : VP}
theorem isNaN_ok {x : Int} (h : R (.bool false) M) : C PP w0 Id.cmp_isNaN_int64 #[.int .i64 x] R M := by
  apply cmp_isNaN_int64.go
  unfold cmp_isNaN_int64.T
  rw [bne_self_eq_false]; exact h
theorem cmp64_ok {x y : Int} (h : R (.int .i64 (if x < y then -1 else if y < x then 1 else 0)) M) : C PP w0 Id.cmp_Compare_int64 #[.int .i64 x, .int .i64 y] R M := by
  apply cmp_Compare_int64.go
  unfold cmp_Compare_int64.T
  refine isNaN_ok ?_
  simp only [go_sem]
  refine isNaN_ok ?_
  simp only [go_sem, bs_false, bs_decide]
  split
  · rename_i h1; rw [if_pos h1] at h; exact h
  · rename_i h1
    rw [if_neg h1] at h
    split
    · rename_i h2; rw [if_pos (by omega)] at h; exact h
    · rename_i h2; rw [if_neg (by omega)] at h; exact h
theorem or2_ok {s : SV} {x y : Int} (hs : RdI w0 M .i64 s [x, y]) (h : R (.int .i64 (if x = 0 then y else x)) M) : C PP w0 Id.cmp_Or_int #[SV.v s] R M := by
  apply cmp_Or_int.go
  intro pts H
  unfold cmp_Or_int.T
  have hl := hs.len
  simp only [List.length_cons, List.length_nil] at hl
  refine ⟨3, ?_⟩
  rw [H.L1]
  unfold cmp_Or_int.L1.T
  rw [bs_decide, if_pos (by omega)]
  refine rdx W.c3 hs (Mem.le_refl _) 0 (by rfl) rfl ?_
  rw [bs_bne]
  split
  · rename_i h0
    rw [if_pos h0] at h
    rw [show w64 ((0 : Int) + 1) = 1 from rfl, H.L1]
    unfold cmp_Or_int.L1.T
    rw [bs_decide, if_pos (by omega)]
    refine rdx W.c3 hs (Mem.le_refl _) 1 (by rfl) rfl ?_
    rw [bs_bne]
    split
    · rename_i h1
      rw [show w64 ((1 : Int) + 1) = 2 from rfl, H.L1]
      unfold cmp_Or_int.L1.T
      rw [bs_decide, if_neg (by omega)]
      rw [h1] at h; exact h
    · exact h
  · rename_i h0
    rw [if_neg h0] at h; exact h
theorem Compare_ok {a0 a1 b0 b1 : Int} (h : ∀ M', Mem.le M M' → R (.int .i64 (cmpI a0 a1 b0 b1)) M') : C PP w0 Id.order_Compare #[.agg #[.int .i64 a0, .int .i64 a1], .agg #[.int .i64 b0, .int .i64 b1]] R M := by
  apply order_Compare.go
  unfold order_Compare.T
  intro x1 hx1 hw1
  intro x2 hx2 hw2
  have f1 := ((Fit.nil (w0 := w0) (Mem.le_refl M)).new hx1 hw1 (cs := [.int .i64 a0, .int .i64 a1]) (e := 64)).new hx2 hw2 (cs := [.int .i64 b0, .int .i64 b1]) (e := 64)
  have o2 := f1.own List.mem_cons_self
  have o1 := f1.own (List.mem_cons_of_mem _ List.mem_cons_self)
  have e1 := rd_own (o := 0) o1
  have e2 := rd_own (o := 0) o2
  have e3 := rd_own (o := 1) o1
  have e4 := rd_own (o := 1) o2
  have hle := f1.fr
  generalize (M.set x1 (.row [.int .i64 a0, .int .i64 a1] 64)).set x2 (.row [.int .i64 b0, .int .i64 b1] 64) = M1 at e1 e2 e3 e4 hle ⊢
  have e1' : rd w0 M1 ⟨x1, 0, none⟩ = some (.int .i64 a0) := e1
  have e2' : rd w0 M1 ⟨x2, 0, none⟩ = some (.int .i64 b0) := e2
  have e3' : rd w0 M1 ⟨x1, 1, none⟩ = some (.int .i64 a1) := e3
  have e4' : rd w0 M1 ⟨x2, 1, none⟩ = some (.int .i64 b1) := e4
  simp only [go_sem, add_eq, Nat.zero_add, e1', e2', e3', e4']
  refine cmp64_ok ?_
  simp only [go_sem, e3', e4']
  refine ⟨trivial, trivial, ?_⟩
  refine cmp64_ok ?_
  simp only [go_sem]
  have i1 : In64 (if a0 < b0 then (-1 : Int) else if b0 < a0 then 1 else 0) := by unfold In64; split <;> (try split) <;> omega
  have i2 : In64 (if a1 < b1 then (-1 : Int) else if b1 < a1 then 1 else 0) := by unfold In64; split <;> (try split) <;> omega
  refine lit_ok [_, _] (n := 2) (by decide) (by kernel_rfl) rfl (wf_all (fun x hx => by
    simp only [List.mem_cons, List.not_mem_nil, or_false] at hx
    rcases hx with rfl | rfl
    · exact i1
    · exact i2)) fun M2 s l2 r2 => ?_
  refine or2_ok r2 ?_
  simp only [go_sem]
  have hh := h M2 (Mem.le_trans hle l2)
  have : cmpI a0 a1 b0 b1 = (if (if a0 < b0 then (-1 : Int) else if b0 < a0 then 1 else 0) = 0 then (if a1 < b1 then (-1 : Int) else if b1 < a1 then 1 else 0) else (if a0 < b0 then (-1 : Int) else if b0 < a0 then 1 else 0)) := by
    unfold cmpI
    by_cases h1 : a0 < b0
    · simp only [if_pos h1]; rw [if_neg (by decide)]
    · by_cases h2 : b0 < a0
      · simp only [if_neg h1, if_pos h2]; rw [if_neg (by decide)]
      · simp only [if_neg h1, if_neg h2]; rw [if_pos trivial]
  rw [← this]; exact hh
theorem neE {X Y : Operand} (a b c d : Int) : (std PP w0).bq .neq 64 X Y (.agg #[.int .i64 a, .int .i64 b]) (.agg #[.int .i64 c, .int .i64 d]) = some (.bool (!(a == c && b == d))) := by
  have := neq_struct (w0 := w0) (X := X) (Y := Y) (es := [a == c, b == d]) (xs := #[.int .i64 a, .int .i64 b]) (ys := #[.int .i64 c, .int .i64 d]) Try.underlying64 (by kernel_rfl) (by kernel_rfl)
    ⟨by decide, ⟨.int .i64 a, .int .i64 c, by kernel_rfl, by kernel_rfl, equal_int Try.underlying2 a c⟩, by decide, ⟨.int .i64 b, .int .i64 d, by kernel_rfl, by kernel_rfl, equal_int Try.underlying2 b d⟩, trivial⟩
  simpa [List.all] using this
end
end Go.Proofs.Ytedofpnjmnkedaa.HL
namespace Go.Proofs.Ytedofpnjmnkedaa.HL
open Go.RowKit (Below)
open Go.Proofs
def eV (e : Ent) : List Value := [.int .i64 e.1, .int .i64 e.2]
def esV (l : List Ent) : List Value := l.flatMap eV
theorem esV_cons (e : Ent) (l : List Ent) : esV (e :: l) = .int .i64 e.1 :: .int .i64 e.2 :: esV l := rfl
theorem esV_append (l m : List Ent) : esV (l ++ m) = esV l ++ esV m := by simp [esV]
theorem esV_len (l : List Ent) : (esV l).length = l.length * 2 := by
  induction l with
  | nil => rfl
  | cons e l ih => rw [esV_cons, List.length_cons, List.length_cons, List.length_cons, ih]; omega
theorem esV_get {l : List Ent} : ∀ {i : Nat} {e : Ent}, l[i]? = some e → (esV l)[i * 2]? = some (.int .i64 e.1) ∧ (esV l)[i * 2 + 1]? = some (.int .i64 e.2) := by
  induction l with
  | nil => intro i e h; simp at h
  | cons x l ih =>
    intro i e h
    cases i with
    | zero =>
      simp at h; subst h
      exact ⟨rfl, rfl⟩
    | succ i =>
      rw [List.getElem?_cons_succ] at h
      obtain ⟨h1, h2⟩ := ih h
      rw [esV_cons]
      refine ⟨?_, ?_⟩
      · rw [show (i + 1) * 2 = (i * 2 + 1) + 1 from by omega, List.getElem?_cons_succ, List.getElem?_cons_succ]; exact h1
      · rw [show (i + 1) * 2 + 1 = (i * 2 + 1 + 1) + 1 from by omega, List.getElem?_cons_succ, List.getElem?_cons_succ]; exact h2
theorem esV_one (l : List Ent) : ∀ v ∈ esV l, onecell v = true := by
  intro v hv
  obtain ⟨e, _, h⟩ := List.mem_flatMap.1 hv
  simp [eV] at h
  rcases h with rfl | rfl <;> rfl
theorem esV_take (l : List Ent) : ∀ (i : Nat), esV (l.take i) = (esV l).take (i * 2) := by
  induction l with
  | nil => intro i; simp [esV]
  | cons x l ih =>
    intro i
    cases i with
    | zero => simp [esV]
    | succ i => rw [List.take_succ_cons, esV_cons, esV_cons, ih, show (i + 1) * 2 = i * 2 + 1 + 1 from by omega]; rfl
theorem esV_drop (l : List Ent) : ∀ (i : Nat), esV (l.drop i) = (esV l).drop (i * 2) := by
  induction l with
  | nil => intro i; simp [esV]
  | cons x l ih =>
    intro i
    cases i with
    | zero => simp
    | succ i => rw [List.drop_succ_cons, ih, esV_cons, show (i + 1) * 2 = i * 2 + 1 + 1 from by omega]; rfl
structure RdE (w0 : World) (M0 : Mem) (s : SV) (l : List Ent) : Prop where
  len : s.n = l.length
  cap : s.n ≤ s.c
  nul : s.a = none → s.n = 0
  cells : ∀ M, Mem.le M0 M → Cells w0 M s.a (esV l)
def SV.cut (s : SV) (lo hi : Nat) : SV := ⟨if s.c = lo then s.a else s.a.map (·.add (lo * 2)), hi - lo, s.c - lo⟩
def Es (s : SV) (l : List Ent) : Asn := SlKA 2 s (esV l)
section
variable {w0 : World} {M M0 F : Mem} {R : VP}
theorem RdE.le {M1 : Mem} {s : SV} {l : List Ent} (h : RdE w0 M0 s l) (hl : Mem.le M0 M1) : RdE w0 M1 s l := ⟨h.len, h.cap, h.nul, fun M hM => h.cells M (Mem.le_trans hl hM)⟩
theorem RdE.nil : RdE w0 M0 ⟨none, 0, 0⟩ [] := ⟨rfl, Nat.le_refl _, fun _ => rfl, fun M _ j v h => by simp [esV] at h⟩
theorem RdE.cut {s : SV} {l : List Ent} (h : RdE w0 M0 s l) {lo hi : Nat} (h1 : lo ≤ hi) (h2 : hi ≤ l.length) : RdE w0 M0 (s.cut lo hi) ((l.take hi).drop lo) := by
  have hl := h.len
  have hc := h.cap
  refine ⟨by simp [SV.cut]; omega, by simp only [SV.cut]; omega, fun e => ?_, fun M hM => ?_⟩
  · simp only [SV.cut] at e ⊢
    split at e
    · have := h.nul e; omega
    · have := h.nul (by simpa using e); omega
  · have hcs := h.cells M hM
    intro j v hj
    have hj2 : (esV l)[lo * 2 + j]? = some v := by
      rw [esV_drop, esV_take, List.getElem?_drop] at hj
      have hlt := (List.getElem?_eq_some_iff.1 hj).1
      rw [List.getElem?_take] at hj
      split at hj
      · exact hj
      · cases hj
    obtain ⟨ad, ea, hr⟩ := hcs _ v hj2
    have hlt := (List.getElem?_eq_some_iff.1 hj2).1
    rw [esV_len] at hlt
    refine ⟨ad.add (lo * 2), ?_, ?_⟩
    · simp only [SV.cut]
      rw [if_neg (by omega), ea]; rfl
    · rw [add_add]; exact hr
theorem RdE.ad {s : SV} {l : List Ent} (h : RdE w0 M0 s l) {j : Nat} {x : Ent} (hj : l[j]? = some x) : ∃ a, s.a = some a ∧ ∀ M, Mem.le M0 M → rd w0 M (a.add (j * 2)) = some (.int .i64 x.1) ∧ rd w0 M (a.add (j * 2 + 1)) = some (.int .i64 x.2) := by
  obtain ⟨g1, g2⟩ := esV_get hj
  obtain ⟨a, ea, _⟩ := h.cells M0 (Mem.le_refl _) _ _ g1
  refine ⟨a, ea, fun M hM => ?_⟩
  obtain ⟨a1, ea1, hr1⟩ := h.cells M hM _ _ g1
  obtain ⟨a2, ea2, hr2⟩ := h.cells M hM _ _ g2
  rw [ea] at ea1 ea2; cases ea1; cases ea2
  exact ⟨hr1, hr2⟩
theorem RdE.ld {s : SV} {l : List Ent} (h : RdE w0 M0 s l) {j : Nat} {x : Ent} (hj : l[j]? = some x) : ∃ a, s.a = some a ∧ ∀ M, Mem.le M0 M → (std PP w0).ld 64 (a.add (j * 2)) M = some (.agg #[.int .i64 x.1, .int .i64 x.2]) := by
  obtain ⟨a, ea, hr⟩ := h.ad hj
  refine ⟨a, ea, fun M hM => ?_⟩
  obtain ⟨r1, r2⟩ := hr M hM
  exact ld_agg (cs := [.int .i64 x.1, .int .i64 x.2]) W.g64 (fun f v hv => by
    match f, hv with
    | 0, hv => simp at hv; subst hv; rw [add_add]; exact r1
    | 1, hv => simp at hv; subst hv; rw [add_add]; exact r2)
theorem rdE {s : SV} {l : List Ent} (h : RdE w0 M0 s l) (hl : Mem.le M0 M) {i : Int} (j : Nat) (e : i = (j : Int)) {x : Ent} (hj : l[j]? = some x) {K : Int → Int → Prop} (hK : K x.1 x.2) :
    nc s.a fun a => (0 ≤ i ∧ i < ((s.n : Nat) : Int)) ∧ ob ((std PP w0).ld 64 (a.add (i.toNat * 2)) M) fun v => shA v fun l5 => shCons l5 fun u6 r7 => shI .i64 u6 fun n8 => shCons r7 fun u9 r10 => shI .i64 u9 fun n11 => shNil r10 (K n8 n11) := by
  subst e
  obtain ⟨a, ea, hr⟩ := h.ld hj
  have hlt := (List.getElem?_eq_some_iff.1 hj).1
  have := h.len
  rw [ea, nc_v, Int.toNat_natCast, hr M hl]
  simp only [ob_v, shA_v, shCons_v, shI_v, shNil_v]
  exact ⟨⟨by omega, by omega⟩, hK⟩
theorem rdEa {s : SV} {l : List Ent} (h : RdE w0 M0 s l) (hl : Mem.le M0 M) {i : Int} (j : Nat) (e : i = (j : Int)) {x : Ent} (hj : l[j]? = some x) {K : Addr → Int → Int → Prop}
    (hK : ∀ a, (∀ M, Mem.le M0 M → (std PP w0).ld 64 (a.add (i.toNat * 2)) M = some (.agg #[.int .i64 x.1, .int .i64 x.2])) → K a x.1 x.2) :
    nc s.a fun a => (0 ≤ i ∧ i < ((s.n : Nat) : Int)) ∧ ob ((std PP w0).ld 64 (a.add (i.toNat * 2)) M) fun v => shA v fun l5 => shCons l5 fun u6 r7 => shI .i64 u6 fun n8 => shCons r7 fun u9 r10 => shI .i64 u9 fun n11 => shNil r10 (K a n8 n11) := by
  subst e
  obtain ⟨a, ea, hr⟩ := h.ld hj
  have hlt := (List.getElem?_eq_some_iff.1 hj).1
  have := h.len
  rw [ea, nc_v, Int.toNat_natCast, hr M hl]
  simp only [ob_v, shA_v, shCons_v, shI_v, shNil_v]
  exact ⟨⟨by omega, by omega⟩, hK a (fun M hM => by rw [Int.toNat_natCast]; exact hr M hM)⟩
theorem SlK.rdE {s : SV} {l : List Ent} (h : SlK w0 M0 M 2 s (esV l)) : RdE w0 M s l := by
  refine ⟨?_, h.cap (by decide), fun e => (h.none e).1, fun M2 hM => (h.le hM).cells⟩
  have := h.len
  rw [esV_len] at this; omega
theorem Holds.rdE {s : SV} {l : List Ent} {Q : Asn} (h : Holds w0 F M (star (Es s l) Q)) : RdE w0 M s l := by
  obtain ⟨F', h1, _⟩ := Holds.slk h
  exact h1.rdE
theorem appE {s x : SV} {l m : List Ent} {Q : Asn} (h : Holds w0 F M (star (Es s l) Q)) (hx : RdE w0 M x m) (hb : l.length + m.length ≤ 137438953472) {K : VP} (hK : ∀ M' s', Holds w0 F M' (star (Es s' (l ++ m)) Q) → K s'.v M') :
    (std PP w0).app #[59, 59] 59 [SV.v s, SV.v x] K M := by
  obtain ⟨F', h1, h2, h3⟩ := Holds.slk h
  have hl := h1.rdE.len
  refine app_slk (k := 2) Try.underlying59 W.e64 h2 h1 (news := esV m) (by rw [esV_len, hx.len]) (hx.cells M (Mem.le_refl _)) hx.nul (esV_one m) (by decide) (by rw [hl, hx.len]; exact hb) fun M' s' l1 l2 _ => ?_
  refine hK M' s' (h3 M' s' _ ?_ l1)
  rw [esV_append]; exact l2
theorem newE0 {P : Asn} (h : Holds w0 F M P) {K : VP} (hK : ∀ M' s', Mem.le M M' → s'.a ≠ none → Holds w0 F M' (star (Es s' []) P) → K s'.v M') : (std PP w0).bsl 59 0 [] K M := by
  refine bsl_e (cells := #[]) Try.underlying59 W.e64 (by decide) (by kernel_rfl) fun b hb hw => ?_
  have l1 : Mem.le M (M.set b (.row (#[] : Array Value).toList 64)) := Mem.le_set _ hb
  exact hK _ ⟨some ⟨b, 0, none⟩, 0, 0⟩ l1 (by simp) (Holds.newSlk h l1 (SlK.new (n := 0) hb (Own.new hw) rfl))
theorem newE {P : Asn} (h : Holds w0 F M P) (x y : Int) {K : VP} (hK : ∀ M' s', Mem.le M M' → Holds w0 F M' (star (Es s' [(x, y)]) P) → K s'.v M') : (std PP w0).bsl 59 1 [(0, .agg #[.int .i64 x, .int .i64 y])] K M := by
  refine bsl_e (n := 1) (cells := #[.int .i64 x, .int .i64 y]) Try.underlying59 W.e64 (by decide) (by kernel_rfl) fun b hb hw => ?_
  have l1 : Mem.le M (M.set b (.row (#[Value.int .i64 x, .int .i64 y] : Array Value).toList 64)) := Mem.le_set _ hb
  exact hK _ ⟨some ⟨b, 0, none⟩, 1, 1⟩ l1 (Holds.newSlk h l1 (SlK.new (n := 1) hb (Own.new hw) rfl))
theorem stE {s : SV} {l : List Ent} {Q : Asn} (h : Holds w0 F M (star (Es s l) Q)) {i : Int} (j : Nat) (e : i = (j : Int)) (hj : j < l.length) {x y : Int} {K : Mem → Prop} (hK : ∀ M', Holds w0 F M' (star (Es s (l.set j (x, y))) Q) → K M') :
    nc s.a fun a => (0 ≤ i ∧ i < ((s.n : Nat) : Int)) ∧ (std PP w0).st 64 (a.add (i.toNat * 2)) (.agg #[.int .i64 x, .int .i64 y]) (fun M' => K M') M := by
  subst e
  have hr := h.rdE
  obtain ⟨r, ⟨r1, r2, rfl, h1, h2⟩, h3⟩ := h
  rcases h1 with ⟨rfl, h0, _⟩ | ⟨b, rest, e, ha, hl, hl2, rfl⟩
  · have := hr.len; simp at this; omega
  · rw [ha, nc_v, Int.toNat_natCast, add_eq, Nat.zero_add]
    rw [esV_len] at hl hl2
    refine ⟨⟨by omega, by have := hr.len; omega⟩, ?_⟩
    refine st_agg (vs := [.int .i64 x, .int .i64 y]) W.g64 (h3.own List.mem_cons_self) (by rw [List.length_append, esV_len]; simp; omega) (fun v hv => by simp at hv; rcases hv with rfl | rfl <;> rfl) ?_
    refine hK _ ⟨_, ⟨_, r2, rfl, .inr ⟨b, rest, e, ha, by rw [esV_len, List.length_set]; exact hl, by rw [esV_len, List.length_set]; exact hl2, rfl⟩, h2⟩, ?_⟩
    have hov : over (esV l ++ rest) (j * 2) [.int .i64 x, .int .i64 y] = esV (l.set j (x, y)) ++ rest := by
      have h1 : l = l.take j ++ (l[j] :: l.drop (j + 1)) := by rw [← List.drop_eq_getElem_cons hj, List.take_append_drop]
      have h2 : l.set j (x, y) = l.take j ++ ((x, y) :: l.drop (j + 1)) := by rw [List.set_eq_take_append_cons_drop, if_pos hj]
      rw [h2, esV_append, esV_cons]
      conv => lhs; rw [h1, esV_append, esV_cons]
      have := over_mid (esV (l.take j)) [.int .i64 l[j].1, .int .i64 l[j].2] (esV (l.drop (j + 1)) ++ rest) [.int .i64 x, .int .i64 y] rfl (o := j * 2) (by rw [esV_len, List.length_take]; omega)
      simpa using this
    rw [hov]
    exact h3.upd
end
end Go.Proofs.Ytedofpnjmnkedaa.HL
namespace Go.Proofs.Ytedofpnjmnkedaa.HL
open Go.RowKit (Below)
open Go.Proofs
section
variable {w0 : World} {M M0 F : Mem} {R : VP}
theorem two_box {a0 a1 b0 b1 : Int} {K : Nat → Nat → Mem → Prop} (h : ∀ x1 x2 M', Mem.le M M' → (std PP w0).ld 64 ⟨x1, 0, none⟩ M' = some (.agg #[.int .i64 a0, .int .i64 a1]) → (std PP w0).ld 64 ⟨x2, 0, none⟩ M' = some (.agg #[.int .i64 b0, .int .i64 b1]) →
    rd w0 M' ⟨x1, 0, none⟩ = some (.int .i64 a0) → rd w0 M' ⟨x1, 1, none⟩ = some (.int .i64 a1) → rd w0 M' ⟨x2, 0, none⟩ = some (.int .i64 b0) → rd w0 M' ⟨x2, 1, none⟩ = some (.int .i64 b1) → Own w0 M' x1 [.int .i64 a0, .int .i64 a1] 64 → Own w0 M' x2 [.int .i64 b0, .int .i64 b1] 64 → K x1 x2 M') :
    (std PP w0).nw [.int .i64 a0, .int .i64 a1] 64 (fun b1' M2 => (std PP w0).nw [.int .i64 b0, .int .i64 b1] 64 (fun b3 M4 => K b1' b3 M4) M2) M := by
  intro x1 hx1 hw1
  intro x2 hx2 hw2
  have f1 := ((Fit.nil (w0 := w0) (Mem.le_refl M)).new hx1 hw1 (cs := [.int .i64 a0, .int .i64 a1]) (e := 64)).new hx2 hw2 (cs := [.int .i64 b0, .int .i64 b1]) (e := 64)
  have o2 := f1.own List.mem_cons_self
  have o1 := f1.own (List.mem_cons_of_mem _ List.mem_cons_self)
  refine h x1 x2 _ f1.fr ?_ ?_ (rd_own (o := 0) o1) (rd_own (o := 1) o1) (rd_own (o := 0) o2) (rd_own (o := 1) o2) o1 o2
  · exact ld_agg (cs := [.int .i64 a0, .int .i64 a1]) W.g64 (fun j v hj => by rw [add_eq, rd_own o1, Nat.zero_add]; exact hj)
  · exact ld_agg (cs := [.int .i64 b0, .int .i64 b1]) W.g64 (fun j v hj => by rw [add_eq, rd_own o2, Nat.zero_add]; exact hj)
theorem Before_ok {a b : Ent} (h : ∀ M', Mem.le M M' → R (.bool (decide (Lt a b))) M') : C PP w0 Id.order_Before #[.agg #[.int .i64 a.1, .int .i64 a.2], .agg #[.int .i64 b.1, .int .i64 b.2]] R M := by
  apply order_Before.go
  unfold order_Before.T
  refine two_box fun x1 x2 M1 l1 e1 e2 r1 r2 r3 r4 o1 o2 => ?_
  rw [e1]
  simp only [ob_v, shA_v, shCons_v, shI_v, shNil_v]
  rw [e2]
  simp only [ob_v, shA_v, shCons_v, shI_v, shNil_v]
  refine Compare_ok fun M2 l2 => ?_
  rw [shI_v]
  have := h M2 (Mem.le_trans l1 l2)
  simp only [cmpI_lt]
  exact this
theorem rBefore_ok {a b : Ent} (h : ∀ M', Mem.le M M' → R (.bool (decide (Lt a b))) M') : C PP w0 Id.r1_Before #[.agg #[.int .i64 a.1, .int .i64 a.2], .agg #[.int .i64 b.1, .int .i64 b.2]] R M := by
  apply r1_Before.go
  unfold r1_Before.T
  refine two_box fun x1 x2 M1 l1 e1 e2 r1 r2 r3 r4 o1 o2 => ?_
  have hh := h M1 l1
  have g : ∀ b1 : Bool, b1 = decide (Lt a b) → R (.bool b1) M1 := fun b1 e => by rw [e]; exact hh
  simp only [go_sem, add_eq, Nat.zero_add, r1, r2, r3, r4, bs_decide]
  split
  · rename_i h1
    exact g true (decide_eq_true (Or.inl h1)).symm
  · rename_i h1
    rw [bs_beq]
    split
    · rename_i h2
      refine g _ ?_
      by_cases h3 : a.2 < b.2
      · rw [decide_eq_true h3]; exact (decide_eq_true (show Lt a b from Or.inr ⟨h2, h3⟩)).symm
      · rw [decide_eq_false h3]; exact (decide_eq_false (show ¬ Lt a b from fun h4 => by unfold Lt at h4; omega)).symm
    · rename_i h2
      exact g false (decide_eq_false (by unfold Lt; omega)).symm
theorem eq_ent (a b : Ent) : (a.1 == b.1 && a.2 == b.2) = decide (a = b) := by
  by_cases h : a = b
  · subst h; simp
  · rw [decide_eq_false h]
    by_cases h1 : a.1 = b.1
    · have : a.2 ≠ b.2 := fun h2 => h (Prod.ext h1 h2)
      simp [h1, this]
    · simp [h1]
theorem SameE_ok {s t : SV} {l m : List Ent} (hs : RdE w0 M s l) (ht : RdE w0 M t m) (hb : l.length ≤ 1000000) (h : R (.bool (decide (l = m))) M) : C PP w0 Id.tb_SameaE #[SV.v s, SV.v t] R M := by
  apply tb_SameaE.go
  intro pts H
  unfold tb_SameaE.T
  have h1 := hs.len
  have h2 := ht.len
  rw [bs_bne]
  split
  · rename_i hn
    have hlen : l.length = m.length := by omega
    have key : ∀ (k i : Nat), l.length < i + k → i ≤ l.length → (∀ j, j < i → l[j]? = m[j]?) → tb_SameaE.L1 pts k s t (i : Int) M := by
      intro k
      induction k with
      | zero => intro i g1 g2; omega
      | succ k ih =>
        intro i g1 g2 hpre
        rw [H.L1]
        unfold tb_SameaE.L1.T
        rw [bs_decide]
        split
        · have hi : i < l.length := by omega
          have ex := List.getElem?_eq_getElem hi
          have ey := List.getElem?_eq_getElem (show i < m.length by omega)
          refine rdE hs (Mem.le_refl _) i rfl ex ?_
          refine rdE ht (Mem.le_refl _) i rfl ey ?_
          rw [neE, eq_ent, ob_v, shB_v]
          by_cases e : l[i] = m[i]
          · rw [decide_eq_true e, Bool.not_true, bs_false, w64_in (by omega)]
            refine ih (i + 1) (by omega) (by omega) fun j hj => ?_
            by_cases e2 : j = i
            · subst e2; rw [ex, ey, e]
            · exact hpre j (by omega)
          · rw [decide_eq_false e, Bool.not_false, bs_true]
            have : ¬ l = m := fun e2 => e (by subst e2; rfl)
            rw [decide_eq_false this] at h; exact h
        · have : i = l.length := by omega
          subst this
          have : l = m := by
            apply List.ext_getElem?
            intro j
            by_cases hj : j < l.length
            · exact hpre j hj
            · rw [List.getElem?_eq_none (by omega), List.getElem?_eq_none (by omega)]
          rw [decide_eq_true this] at h; exact h
    exact ⟨l.length + 1, key (l.length + 1) 0 (by omega) (by omega) (fun j hj => by omega)⟩
  · rename_i hn
    have : ¬ l = m := fun e => by subst e; omega
    rw [decide_eq_false this] at h; exact h
theorem CloneE_ok {s : SV} {l : List Ent} {Q : Asn} (hQ : Holds w0 F M Q) (hs : RdE w0 M s l) (hb : l.length ≤ 1000000) (h : ∀ M' s', Holds w0 F M' (star (Es s' l) Q) → R s'.v M') : C PP w0 Id.sl_CloneaE_aE #[SV.v s] R M := by
  apply sl_CloneaE_aE.go
  unfold sl_CloneaE_aE.T
  rw [W.eqs59, ob_v, shB_v, bs_b]
  refine ⟨fun hn => ?_, fun hn => ?_⟩
  · have hn0 : s.a = none := by cases ha : s.a with
      | none => rfl
      | some a => rw [ha] at hn; cases hn
    have : l = [] := List.eq_nil_of_length_eq_zero (by have := hs.nul hn0; have := hs.len; omega)
    subst this
    exact h M ⟨none, 0, 0⟩ (Holds.nilSlk hQ)
  · refine newE0 hQ fun M1 s1 l1 hne h1 => ?_
    rw [shS_sv]
    refine appE h1 (hs.le l1) (by simp; omega) fun M2 s2 h2 => ?_
    rw [shS_sv]
    exact h M2 s2 h2
theorem cpyK {d x : SV} {L news : List Value} {Q : Asn} (h : Holds w0 F M (star (SlKA 2 d L) Q)) {lo : Nat} (hlo : lo ≤ d.n) (n : Nat) (en : n = min x.n (d.n - lo)) (hn : news.length = n * 2) (hcn : Cells w0 M x.a news) (hnn : x.a = none → n = 0) (hone : ∀ v ∈ news, onecell v = true)
    {K : VP} (hK : ∀ M', Holds w0 F M' (star (SlKA 2 d (over L (lo * 2) news)) Q) → K (.int .i64 (n : Int)) M') : (std PP w0).cpy #[59, 59] 3 [SV.v (d.cut lo d.n), SV.v x] K M := by
  obtain ⟨inf, hi, hz, hsz, _⟩ := W.e64
  have hh := h
  obtain ⟨r, ⟨r1, r2, rfl, h1, h2⟩, h3⟩ := h
  rcases h1 with ⟨rfl, rfl, rfl⟩ | ⟨b, rest, e, ha, hl, hl2, rfl⟩
  · refine cpy_ok Try.underlying59 hi n en (by rw [hsz]; exact hn) hcn hnn (fun _ => ?_) (fun a e => ?_)
    · have : news = [] := List.eq_nil_of_length_eq_zero (by
        simp at en; rw [hn, en]; )
      subst this
      exact hK M hh
    · simp only [SV.cut] at e
      split at e <;> simp at e
  · by_cases hlt : n = 0
    · have : news = [] := List.eq_nil_of_length_eq_zero (by rw [hn, hlt])
      subst this
      refine cpy_ok (news := []) Try.underlying59 hi n en (by rw [hsz]; exact hn) hcn hnn (fun _ => hK M hh) (fun a e1 => ?_)
      simp only [SV.cut, ha] at e1
      have hrow := h3.own List.mem_cons_self
      have hset : M.set b (.row (L ++ rest) e) = M := by
        funext x
        by_cases hx : x = b
        · subst hx; simp only [Mem.set, if_true]; exact hrow.2.symm
        · simp only [Mem.set, if_neg hx]
      split at e1
      · simp only [Option.some.injEq] at e1
        subst e1
        refine ⟨b, 0, _, _, rfl, hrow, by simp, by simp, ?_⟩
        rw [show over (L ++ rest) 0 [] = L ++ rest from rfl, hset]
        exact hK M hh
      · simp only [Option.map_some, Option.some.injEq] at e1
        subst e1
        rw [add_eq]
        refine ⟨b, _, _, _, rfl, hrow, ?_, by simp, ?_⟩
        · rw [List.length_append, List.length_nil]; omega
        · rw [show over (L ++ rest) (0 + lo * 2) [] = L ++ rest from rfl, hset]
          exact hK M hh
    · refine cpy_ok Try.underlying59 hi n en (by rw [hsz]; exact hn) hcn hnn (fun e1 => ?_) (fun a e1 => ?_)
      · simp only [SV.cut, ha] at e1
        split at e1 <;> simp at e1
      · simp only [SV.cut, ha] at e1
        have hcap : lo < d.c := by omega
        rw [if_neg (by omega)] at e1
        simp only [Option.map_some, Option.some.injEq] at e1
        subst e1
        rw [add_eq, Nat.zero_add]
        refine ⟨b, lo * 2, _, _, rfl, h3.own List.mem_cons_self, by rw [List.length_append]; omega, hone, ?_⟩
        refine hK _ ⟨_, ⟨_, r2, rfl, .inr ⟨b, rest, e, ha, by rw [over_length]; exact hl, by rw [over_length]; exact hl2, rfl⟩, h2⟩, ?_⟩
        have hov : over (L ++ rest) (lo * 2) news = over L (lo * 2) news ++ rest := by
          have h4 : L = L.take (lo * 2) ++ (((L.drop (lo * 2)).take news.length) ++ (L.drop (lo * 2)).drop news.length) := by rw [List.take_append_drop, List.take_append_drop]
          have hlen : ((L.drop (lo * 2)).take news.length).length = news.length := by rw [List.length_take, List.length_drop]; omega
          have htk : lo * 2 = (L.take (lo * 2)).length := by rw [List.length_take]; omega
          have g1 := over_mid (L.take (lo * 2)) ((L.drop (lo * 2)).take news.length) ((L.drop (lo * 2)).drop news.length) news hlen.symm htk
          have g2 := over_mid (L.take (lo * 2)) ((L.drop (lo * 2)).take news.length) ((L.drop (lo * 2)).drop news.length ++ rest) news hlen.symm htk
          rw [← h4] at g1
          rw [← List.append_assoc ((L.drop (lo * 2)).take news.length), ← List.append_assoc (L.take (lo * 2)), ← h4] at g2
          rw [g1, g2]; simp
        rw [hov]
        exact h3.upd
theorem SlKA.grow {s : SV} {A : List Value} {n : Nat} {r : Rws} (h : SlKA 2 s A r) (hn : s.n ≤ n) (hc : n ≤ s.c) (hs : s.a ≠ none) : ∃ B, (A ++ B).length = n * 2 ∧ SlKA 2 ⟨s.a, n, s.c⟩ (A ++ B) r := by
  rcases h with ⟨rfl, _⟩ | ⟨b, rest, e, ha, hl, hl2, rfl⟩
  · exact absurd rfl hs
  · have hlen : (A ++ rest.take ((n - s.n) * 2)).length = n * 2 := by rw [List.length_append, List.length_take]; omega
    exact ⟨rest.take ((n - s.n) * 2), hlen, .inr ⟨b, rest.drop ((n - s.n) * 2), e, ha, hlen, by rw [hlen, List.length_drop]; show n * 2 + _ = s.c * 2; omega, by rw [List.append_assoc, List.take_append_drop]⟩⟩
end
end Go.Proofs.Ytedofpnjmnkedaa.HL
namespace Go.Proofs.Ytedofpnjmnkedaa.HL
open Go.RowKit (Below)
open Go.Proofs
theorem esV_erase (l : List Ent) (i : Nat) : (esV l).take (i * 2) ++ (esV l).drop ((i + 1) * 2) = esV (l.eraseIdx i) := by
  rw [← esV_take, ← esV_drop, ← esV_append, List.eraseIdx_eq_take_drop_succ]
section
variable {w0 : World} {M M0 F : Mem} {R : VP}
theorem Holds.lenE {s : SV} {l : List Ent} {Q : Asn} (h : Holds w0 F M (star (Es s l) Q)) : s.n = l.length := h.rdE.len
theorem IdxE_ok {s : SV} {l : List Ent} {kf : FuncId × Array Value} {p : Ent → Bool} (hs : RdE w0 M s l) (hb : l.length ≤ 1000000)
    (hp : ∀ (e : Ent) (M' : Mem) (R' : VP), e ∈ l → Mem.le M M' → (∀ M'', Mem.le M' M'' → R' (.bool (p e)) M'') → C PP w0 kf.1 ((([.agg #[.int .i64 e.1, .int .i64 e.2]] : List Value) ++ kf.2.toList).toArray) R' M')
    (h : ∀ M', Mem.le M M' → R (.int .i64 (match l.findIdx? p with | some i => (i : Int) | none => -1)) M') : C PP w0 Id.sl_IndexFuncaE_aE #[SV.v s, .func (.func kf.1) #[] kf.2] R M := by
  refine sl_IndexFuncaE_aE.go _ s kf ?_
  intro pts H
  unfold sl_IndexFuncaE_aE.T
  have hsl := hs.len
  have key : ∀ (k i : Nat) (M' : Mem), i ≤ l.length → l.length < i + k → Mem.le M M' → (∀ j x, j < i → l[j]? = some x → p x = false) → sl_IndexFuncaE_aE.L1 pts k s kf ((s.n : Nat) : Int) (i : Int) M' := by
    intro k
    induction k with
    | zero => intro i M' h1 h2; omega
    | succ k ih =>
      intro i M' hi hk hl hno
      rw [H.L1]
      unfold sl_IndexFuncaE_aE.L1.T
      rw [bs_decide]
      split
      · have hlt : i < l.length := by omega
        have ex := List.getElem?_eq_getElem hlt
        have hm := List.getElem_mem hlt
        generalize l[i] = x at ex hm
        refine rdE hs hl i rfl ex ?_
        refine hp x M' _ hm hl fun M2 l2 => ?_
        rw [shB_v]
        cases hpx : p x with
        | true =>
          rw [bs_true]
          have hf : l.findIdx? p = some i := by
            rw [List.findIdx?_eq_some_iff_getElem]
            obtain ⟨h1, h2⟩ := List.getElem?_eq_some_iff.1 ex
            refine ⟨h1, by rw [h2]; exact hpx, fun j hj => ?_⟩
            have := hno j _ hj (List.getElem?_eq_getElem (by omega))
            simp [this]
          have := h M2 (Mem.le_trans hl l2)
          rw [hf] at this; exact this
        | false =>
          rw [bs_false, i64_succ (by omega)]
          refine ih (i + 1) M2 (by omega) (by omega) (Mem.le_trans hl l2) fun j y hj hy => ?_
          by_cases hji : j = i
          · subst hji; rw [ex] at hy; cases hy; exact hpx
          · exact hno j y (by omega) hy
      · have hf : l.findIdx? p = none := by
          rw [List.findIdx?_eq_none_iff]
          intro x hx
          obtain ⟨j, hj⟩ := List.getElem?_of_mem hx
          have := (List.getElem?_eq_some_iff.1 hj).1
          exact hno j x (by omega) hj
        have := h M' hl
        rw [hf] at this; exact this
  exact ⟨l.length + 1, key (l.length + 1) 0 M (by omega) (by omega) (Mem.le_refl _) fun j x hj => absurd hj (by omega)⟩
theorem DelE_ok {Q : Asn} {s : SV} {l : List Ent} (h : Holds w0 F M (star (Es s l) Q)) {i : Nat} (hi : i < l.length) (hb : l.length ≤ 100000) (hR : ∀ M' s', Holds w0 F M' (star (Es s' (l.eraseIdx i)) Q) → R s'.v M') :
    C PP w0 Id.sl_DeleteaE_aE #[SV.v s, .int .i64 (i : Int), .int .i64 ((i + 1 : Nat) : Int)] R M := by
  have hsn := h.lenE
  have hcap := h.rdE.cap
  apply sl_DeleteaE_aE.go
  unfold sl_DeleteaE_aE.T
  refine ⟨⟨by omega, by omega, by omega, by omega⟩, ?_⟩
  rw [bs_beq, if_neg (by omega)]
  refine ⟨⟨by omega, by omega, by omega⟩, ⟨by omega, by omega, by omega⟩, ?_⟩
  refine del_core (k := 2) Try.underlying59 W.e64 (by omega) h (by omega) (esV_one l) (fun v hv => ?_) (by omega) fun M' s' h' hn' => ?_
  · have : zeros (.agg #[.int .i64 0, .int .i64 0]) 1 = [.int .i64 0, .int .i64 0] := by kernel_rfl
    rw [this] at hv
    simp only [List.mem_cons, List.not_mem_nil, or_false] at hv
    rcases hv with rfl | rfl <;> rfl
  · rw [esV_erase] at h'
    exact hR M' s' h'
theorem RdE.tail {s : SV} {l : List Ent} (h : RdE w0 M s l) {i : Nat} (hi : i ≤ l.length) : Cells w0 M (if s.c = i then s.a else s.a.map (·.add (i * 2))) (esV (l.drop i)) := fun j v hj => by
  have h1 := h.cells M (Mem.le_refl _) (i * 2 + j) v (by rw [esV_drop, List.getElem?_drop] at hj; exact hj)
  obtain ⟨ad, ea, hr⟩ := h1
  have hjl := (List.getElem?_eq_some_iff.1 hj).1
  rw [esV_len, List.length_drop] at hjl
  have hlen := h.len
  have hcap := h.cap
  rw [if_neg (by omega), ea]
  exact ⟨_, rfl, by rw [add_add]; exact hr⟩
theorem InsE_ok {Q : Asn} {s x : SV} {l : List Ent} {e : Ent} (h : Holds w0 F M (star (Es s l) (star (Es x [e]) Q))) {i : Nat} (hi : i ≤ l.length) (hb : l.length ≤ 100000) (hR : ∀ M' s', Holds w0 F M' (star (Es s' (l.take i ++ e :: l.drop i)) (star (Es x [e]) Q)) → R s'.v M') :
    C PP w0 Id.sl_InsertaE_aE #[SV.v s, .int .i64 (i : Int), SV.v x] R M := by
  have hsn := h.lenE
  have hrs := h.rdE
  have hcap := hrs.cap
  have hrx := h.right.rdE
  have hxn : x.n = 1 := hrx.len
  apply sl_InsertaE_aE.go
  unfold sl_InsertaE_aE.T
  refine ⟨⟨by omega, by omega, by omega⟩, ?_⟩
  rw [bs_beq, if_neg (by omega), bs_beq]
  split
  · rename_i hie
    have hil : i = l.length := by omega
    refine appE h hrx (by simp; omega) fun M1 s1 h1 => ?_
    rw [shS_sv]
    refine hR M1 s1 ?_
    rw [hil, List.take_length, List.drop_length]
    exact h1
  · rename_i hie
    have hil : i < l.length := by omega
    have w1 : w64 (((s.n : Nat) : Int) + ((x.n : Nat) : Int)) = ((l.length + 1 : Nat) : Int) := by rw [w64_in (by omega)]; omega
    have w2 : w64 ((i : Int) + ((x.n : Nat) : Int)) = ((i + 1 : Nat) : Int) := by rw [w64_in (by omega)]; omega
    have w3 : w64 (((l.length + 1 : Nat) : Int) - (i : Int)) = ((l.length + 1 - i : Nat) : Int) := by rw [w64_in (by omega)]; omega
    have adz : ∀ a : Addr, a.add 0 = a := fun a => by simp [Addr.add]
    have hz : (if s.c = (0 : Int).toNat then s.a else s.a.map (·.add ((0 : Int).toNat * 2))) = s.a := by
      split
      · rfl
      · cases s.a with
        | none => rfl
        | some a => show some (a.add 0) = some a; rw [adz]
    have t0 : (0 : Int).toNat = 0 := rfl
    simp only [w1, w2, w3, hz]
    rw [bs_decide]
    have hx1 : x.a ≠ none := fun e9 => by have := hrx.nul e9; omega
    have hxc : Cells w0 M x.a (esV [e]) := hrx.cells M (Mem.le_refl _)
    split
    · rename_i hgr
      refine ⟨⟨by omega, by omega, by omega⟩, ?_⟩
      simp only [t0, Int.toNat_natCast, Nat.sub_zero]
      obtain ⟨F1, hsl, hle, back⟩ := h.slk
      obtain ⟨inf, hinf, hzz, hsz, hzs, hb1, hb2⟩ := W.e64
      refine appz_ok (s := ⟨s.a, i, s.c⟩) (n := l.length + 1 - i) (olds := esV (l.take i)) Try.underlying59 Try.underlying3 hinf hzz (by rw [esV_len, List.length_take, hsz]; show min i l.length * 2 = i * 2; omega) (fun j v hj => ?_) (fun e9 => ?_) hb1 ?_ (by show s.c < i + (l.length + 1 - i); omega) (by rw [hsz]; omega) fun b c hb0 hw0 hc => ?_
      · have hjl := (List.getElem?_eq_some_iff.1 hj).1
        refine hrs.cells M (Mem.le_refl _) j v ?_
        rw [esV_take, List.getElem?_take_of_lt (by rw [esV_len, List.length_take] at hjl; omega)] at hj
        exact hj
      · have := hrs.nul e9
        show i = 0
        omega
      · show (i + (l.length + 1 - i)) * inf.bytes ≤ _
        exact Nat.le_trans (Nat.mul_le_mul (show i + (l.length + 1 - i) ≤ 200000 by omega) hb2) (by decide)
      · show shS (Value.slice (some ⟨b, 0, none⟩) (i + (l.length + 1 - i)) c) _
        have hlen1 : i + (l.length + 1 - i) = l.length + 1 := by omega
        have hc' : l.length + 1 ≤ c := by have : i + (l.length + 1 - i) ≤ c := hc; omega
        rw [hlen1, shS_v]
        simp only
        refine ⟨⟨by omega, by omega, by omega⟩, ?_⟩
        have hzlen : ∀ n, (zeros (.agg #[.int .i64 0, .int .i64 0]) n).length = n * 2 := fun n => by rw [zeros_length]; rfl
        have hH1 : Holds w0 F _ (star (SlKA 2 ⟨some ⟨b, 0, none⟩, l.length + 1, c⟩ (esV (l.take i) ++ zeros (.agg #[.int .i64 0, .int .i64 0]) (l.length + 1 - i))) (star (Es s l) (star (Es x [e]) Q))) := h.newSlk (M' := M.set b (.row (esV (l.take i) ++ zeros (.agg #[.int .i64 0, .int .i64 0]) (l.length + 1 - i) ++ zeros (.agg #[.int .i64 0, .int .i64 0]) (c - (i + (l.length + 1 - i)))) 64)) (Mem.le_set _ hb0) (.inr ⟨b, _, _, rfl, by
          rw [List.length_append, esV_len, List.length_take, hzlen]; show min i l.length * 2 + (l.length + 1 - i) * 2 = (l.length + 1) * 2; omega, by
          rw [List.length_append, esV_len, List.length_take, hzlen, hzlen]; show min i l.length * 2 + (l.length + 1 - i) * 2 + (c - (i + (l.length + 1 - i))) * 2 = c * 2; omega, hb0, Own.new hw0⟩)
        rw [hlen1] at hH1
        generalize M.set b _ = M1 at hH1 ⊢
        have hz2 : zeros (.agg #[.int .i64 0, .int .i64 0]) (l.length + 1 - i) = .int .i64 0 :: .int .i64 0 :: zeros (.agg #[.int .i64 0, .int .i64 0]) (l.length - i) := by
          apply List.ext_getElem?
          intro j
          have hg : ∀ n j, (zeros (.agg #[.int .i64 0, .int .i64 0]) n)[j]? = if j < n * 2 then some (.int .i64 0) else none := fun n j => by
            split
            · rename_i hj
              rw [List.getElem?_eq_getElem (by rw [hzlen]; exact hj)]
              simp only [zeros, Builtin.zeroCells, Value.cells, Array.getElem_toList, Array.getElem_map, Array.getElem_range, Option.some.injEq]
              have : j % 2 = 0 ∨ j % 2 = 1 := by omega
              rcases this with h9 | h9 <;> simp [h9]
            · rename_i hj
              rw [List.getElem?_eq_none (by rw [hzlen]; omega)]
          rw [hg]
          match j with
          | 0 => rw [if_pos (by omega)]; rfl
          | 1 => rw [if_pos (by omega)]; rfl
          | j + 2 =>
            rw [List.getElem?_cons_succ, List.getElem?_cons_succ, hg]
            by_cases h9 : j < (l.length - i) * 2
            · rw [if_pos (by omega), if_pos h9]
            · rw [if_neg (by omega), if_neg h9]
        rw [hz2] at hH1
        have tk : i * 2 = (esV (l.take i)).length := by rw [esV_len, List.length_take]; omega
        have hrx1 := (hH1.right.right).rdE
        refine cpyK (d := ⟨some ⟨b, 0, none⟩, l.length + 1, c⟩) (x := x) (lo := i) (news := esV [e]) hH1 (by show i ≤ l.length + 1; omega) 1 (by show 1 = min x.n (l.length + 1 - i); omega) rfl (hrx1.cells _ (Mem.le_refl _)) (fun e9 => absurd e9 hx1) (esV_one _) fun M2 hH2 => ?_
        have e1 : over (esV (l.take i) ++ .int .i64 0 :: .int .i64 0 :: zeros (.agg #[.int .i64 0, .int .i64 0]) (l.length - i)) (i * 2) (esV [e]) = esV (l.take i) ++ (esV [e] ++ zeros (.agg #[.int .i64 0, .int .i64 0]) (l.length - i)) := by
          have := over_mid (esV (l.take i)) [.int .i64 0, .int .i64 0] (zeros (.agg #[.int .i64 0, .int .i64 0]) (l.length - i)) (esV [e]) rfl tk
          simpa using this
        rw [e1] at hH2
        rw [shI_v]
        refine ⟨⟨by omega, by omega, by omega⟩, ⟨by omega, by omega, by omega⟩, ?_⟩
        have hrs2 := hH2.right.rdE
        have e2 : (Value.slice (if s.c = i then s.a else s.a.map (·.add (i * 2))) (s.n - i) (s.c - i)) = SV.v ⟨(if s.c = i then s.a else s.a.map (·.add (i * 2))), s.n - i, s.c - i⟩ := rfl
        rw [e2]
        refine cpyK (d := ⟨some ⟨b, 0, none⟩, l.length + 1, c⟩) (lo := i + 1) (news := esV (l.drop i)) hH2 (by show i + 1 ≤ l.length + 1; omega) (l.length - i) (by show l.length - i = min (s.n - i) (l.length + 1 - (i + 1)); omega) (by rw [esV_len, List.length_drop]) (hrs2.tail (by omega)) (fun e9 => ?_) (esV_one _) fun M3 hH3 => ?_
        · simp only at e9
          rw [if_neg (by omega)] at e9
          have : s.a = none := by simpa using e9
          have := hrs.nul this; omega
        · rw [shI_v]
          have e3 : over (esV (l.take i) ++ (esV [e] ++ zeros (.agg #[.int .i64 0, .int .i64 0]) (l.length - i))) ((i + 1) * 2) (esV (l.drop i)) = esV (l.take i ++ e :: l.drop i) := by
            have := over_mid (esV (l.take i) ++ esV [e]) (zeros (.agg #[.int .i64 0, .int .i64 0]) (l.length - i)) [] (esV (l.drop i)) (by rw [esV_len, hzlen, List.length_drop]) (o := (i + 1) * 2) (by rw [List.length_append, ← tk]; show (i + 1) * 2 = i * 2 + 2; omega)
            rw [List.append_nil, List.append_assoc, List.append_nil] at this
            rw [this, esV_append, List.append_assoc]
            rfl
          rw [e3] at hH3
          refine hR M3 ⟨some ⟨b, 0, none⟩, l.length + 1, c⟩ ?_
          obtain ⟨r, ⟨r1, r2, rfl, q1, r3, r4, rfl, q2, q3⟩, q4⟩ := hH3
          exact ⟨r1 ++ r4, ⟨r1, r4, rfl, q1, q3⟩, (q4.perm (r' := (r1 ++ r4) ++ r3) (by rw [List.append_assoc]; exact (List.perm_append_comm).append_left r1)).drop⟩
    · rename_i hgr
      refine ⟨⟨by omega, by omega, by omega⟩, ⟨by omega, by omega, by omega⟩, ?_⟩
      simp only [t0, Int.toNat_natCast, Nat.sub_zero]
      have hsa : s.a ≠ none := fun e9 => by have := hrs.nul e9; omega
      have hov : ∀ R' : VP, R' (.bool false) M → C PP w0 Id.sl_overlapsaE #[SV.v x, .slice (if s.c = i + 1 then s.a else s.a.map (·.add ((i + 1) * 2))) (l.length + 1 - (i + 1)) (s.c - (i + 1))] R' M := fun R' hR' => by
        obtain ⟨r, ⟨r1, r2, rfl, q1, r3, r4, rfl, q2, q3⟩, q4⟩ := h
        rcases q1 with ⟨rfl, _⟩ | ⟨b, rest, e9, ha, hl, hl2, rfl⟩
        · exact absurd rfl hsa
        · rcases q2 with ⟨rfl, _⟩ | ⟨b2, rest2, e92, ha2, hl3, hl4, rfl⟩
          · exact absurd rfl hx1
          · have o1 := q4.own (b := b) (cs := esV l ++ rest) (e := e9) (by simp)
            have o2 := q4.own (b := b2) (cs := esV [e] ++ rest2) (e := e92) (by simp)
            have hne : b2 ≠ b := fun e0 => by
              have := q4.nd
              simp only [List.cons_append, List.nil_append, List.map_cons, List.nodup_cons, List.mem_cons, not_or] at this
              exact this.1.1 e0.symm
            rw [ha, if_neg (by omega)]
            simp only [SV.v, ha2, Option.map_some, add_eq]
            exact overlaps_ok (size := 2) (tS := 59) (tR := 4) (e := 64) (show PP.funcs[Id.sl_overlapsaE]? = some Try.f92 from Try.func92) (by kernel_rfl) (by kernel_rfl) (by kernel_rfl) (by kernel_rfl) Try.underlying59 (by kernel_rfl) hne o2 o1 (by
              intro e0
              have := congrArg List.length e0
              rw [List.length_append, esV_len] at this
              simp only [List.length_nil] at this
              omega) hR'
      refine hov _ ?_
      rw [shB_v, Bool.not_false, bs_true]
      refine ⟨⟨by omega, by omega, by omega⟩, ⟨by omega, by omega, by omega⟩, ?_⟩
      have hgrow : ∃ B : List Value, B.length = 2 ∧ Holds w0 F M (star (SlKA 2 ⟨s.a, l.length + 1, s.c⟩ (esV l ++ B)) (star (Es x [e]) Q)) := by
        obtain ⟨r, ⟨r1, r2, rfl, q1, q2⟩, q3⟩ := h
        obtain ⟨B, hB, hg⟩ := SlKA.grow (n := l.length + 1) q1 (by omega) (by omega) hsa
        refine ⟨B, ?_, _, ⟨r1, r2, rfl, hg, q2⟩, q3⟩
        rw [List.length_append, esV_len] at hB; omega
      obtain ⟨B, hB, hH1⟩ := hgrow
      have e2 : (Value.slice (if s.c = i then s.a else s.a.map (·.add (i * 2))) (l.length + 1 - i) (s.c - i)) = SV.v ⟨(if s.c = i then s.a else s.a.map (·.add (i * 2))), l.length + 1 - i, s.c - i⟩ := rfl
      rw [e2]
      refine cpyK (d := ⟨s.a, l.length + 1, s.c⟩) (lo := i + 1) (news := esV (l.drop i)) hH1 (by show i + 1 ≤ l.length + 1; omega) (l.length - i) (by show l.length - i = min (l.length + 1 - i) (l.length + 1 - (i + 1)); omega) (by rw [esV_len, List.length_drop]) (hrs.tail (by omega)) (fun e9 => ?_) (esV_one _) fun M2 hH2 => ?_
      · simp only at e9
        rw [if_neg (by omega)] at e9
        exact absurd (by simpa using e9) hsa
      · rw [shI_v]
        refine ⟨⟨by omega, by omega, by omega⟩, ?_⟩
        have hl1 : l.drop i = l[i] :: l.drop (i + 1) := List.drop_eq_getElem_cons hil
        have e3 : over (esV l ++ B) ((i + 1) * 2) (esV (l.drop i)) = esV (l.take i) ++ (eV l[i] ++ esV (l.drop i)) := by
          have h9 : esV l ++ B = esV (l.take (i + 1)) ++ ((esV (l.drop (i + 1)) ++ B) ++ []) := by
            rw [List.append_nil, ← List.append_assoc, ← esV_append, List.take_append_drop]
          rw [h9, over_mid (esV (l.take (i + 1))) (esV (l.drop (i + 1)) ++ B) [] (esV (l.drop i)) (by rw [List.length_append, esV_len, esV_len, List.length_drop, List.length_drop, hB]; omega) (by rw [esV_len, List.length_take]; omega), List.append_nil, ← List.append_assoc]
          congr 1
          rw [List.take_succ_eq_append_getElem hil, esV_append]
          simp [esV]
        rw [e3] at hH2
        have hrx2 := hH2.right.rdE
        refine cpyK (d := ⟨s.a, l.length + 1, s.c⟩) (x := x) (lo := i) (news := esV [e]) hH2 (by show i ≤ l.length + 1; omega) 1 (by show 1 = min x.n (l.length + 1 - i); omega) rfl (hrx2.cells _ (Mem.le_refl _)) (fun e9 => absurd e9 hx1) (esV_one _) fun M3 hH3 => ?_
        rw [shI_v]
        have e4 : over (esV (l.take i) ++ (eV l[i] ++ esV (l.drop i))) (i * 2) (esV [e]) = esV (l.take i ++ e :: l.drop i) := by
          rw [over_mid (esV (l.take i)) (eV l[i]) (esV (l.drop i)) (esV [e]) rfl (by rw [esV_len, List.length_take]; omega), esV_append]
          rfl
        rw [e4] at hH3
        exact hR M3 ⟨s.a, l.length + 1, s.c⟩ hH3
end
end Go.Proofs.Ytedofpnjmnkedaa.HL
namespace Go.Proofs.Ytedofpnjmnkedaa.HL
open Go.RowKit (Below)
open Go.Proofs
section
variable {P : Program} {w0 : World} {M : Mem}
theorem peek_shape {b : Nat} {cs : List Value} {e : TypeId} (h : Own w0 M b cs e) : peek P w0 M (shape b) = some (some (e, cs.length)) := by
  have h2 : shp? w0 M b = some (some (e, cs.length)) := by
    unfold shp?
    rw [if_neg (by have := h.1; omega), h.2]
  simp only [shape, peek, h2]
theorem peek_frozen {b : Nat} {cs : List Value} {e : TypeId} (h : Own w0 M b cs e) (ad : Addr) (hb : ad.block = b) : peek P w0 M (frozen ad) = some false := by
  have h2 : frz? w0 M ad = some false := by
    unfold frz?
    rw [hb, if_neg (by have := h.1; omega), h.2]
  simp only [frozen, peek, h2]
theorem peek_noView {b : Nat} {cs : List Value} {e : TypeId} (h : Own w0 M b cs e) {ad : Addr} (hb : ad.block = b) : peek P w0 M (noView ad) = some () := by
  have h2 : peek P w0 M (viewAt ad.block) = some none := by
    unfold viewAt
    rw [hb, peek_peek (peek_shape h)]
    rfl
  unfold noView
  rw [peek_peek h2]; rfl
theorem peek_stringish {b : Nat} {cs : List Value} {e : TypeId} (h : Own w0 M b cs e) {ad : Addr} (hb : ad.block = b) : peek P w0 M (stringish ad) = some false := by
  unfold stringish
  rw [peek_peek (peek_frozen h ad hb)]
  simp only [Bool.false_eq_true, if_false]
  rw [hb, peek_peek (peek_shape h)]
  exact peek_frozen h _ rfl
theorem ptr_ne {t elem : TypeId} {X Y : Operand} (ht : P.underlying t = some (.pointer elem)) {n : Nat} (hs : (P.info? elem).map (·.size) = some (n + 1)) {a b : Nat} {csa csb : List Value} {ea eb : TypeId} (hne : a ≠ b) (oa : Own w0 M a csa ea) (ob : Own w0 M b csb eb) :
    (std P w0).bqm .eql t X Y (.pointer (some ⟨a, 0, none⟩)) (.pointer (some ⟨b, 0, none⟩)) M = some (.bool false) := by
  obtain ⟨inf, hinf, hsz⟩ : ∃ inf, P.info? elem = some inf ∧ inf.size = n + 1 := by
    cases h : P.info? elem with
    | none => rw [h] at hs; cases hs
    | some inf => rw [h] at hs; exact ⟨inf, rfl, Option.some.inj hs⟩
  have hm : peek P w0 M (mayBeOne ⟨a, 0, none⟩ ⟨b, 0, none⟩) = some false := by
    unfold mayBeOne
    rw [peek_peek (peek_stringish oa rfl), peek_peek (peek_stringish ob rfl)]
    simp only [Bool.false_and]
    simp only [bind_assoc, LawfulMonad.pure_bind, peek_peek (peek_shape oa), peek_peek (peek_shape ob)]
    rfl
  have hsa : peek P w0 M (sameAddr ⟨a, 0, none⟩ ⟨b, 0, none⟩) = some false := by
    unfold sameAddr
    have : (a == b) = false := by simpa using hne
    simp only [this, Bool.false_eq_true, if_false]
    rw [peek_peek (peek_frozen oa ⟨a, 0, none⟩ rfl), peek_peek (peek_frozen ob ⟨b, 0, none⟩ rfl)]
    simp only [Bool.false_and, Bool.false_eq_true, if_false]
    rw [peek_peek (peek_noView oa rfl), peek_peek (peek_noView ob rfl), peek_peek hm]
    simp only [Bool.false_eq_true, if_false]
    rfl
  show peek P w0 M (eqGuard .eql t X Y (.pointer (some ⟨a, 0, none⟩)) (.pointer (some ⟨b, 0, none⟩)) >>= fun _ => (do pure (.bool (← Op.equal t (.pointer (some ⟨a, 0, none⟩)) (.pointer (some ⟨b, 0, none⟩)))) : Sem Value)) = _
  have hg : peek P w0 M (eqGuard .eql t X Y (.pointer (some ⟨a, 0, none⟩)) (.pointer (some ⟨b, 0, none⟩))) = some () := rfl
  rw [peek_peek hg]
  have he : peek P w0 M (Op.equal t (.pointer (some ⟨a, 0, none⟩)) (.pointer (some ⟨b, 0, none⟩))) = some false := by
    unfold Op.equal
    rw [show Op.maxDepth = 9999 + 1 from rfl]
    unfold Op.equalIn
    rw [peek_peek (peek_under ht)]
    simp only
    rw [peek_peek (peek_size hinf), hsz]
    simp only [ne_eq, Nat.succ_ne_zero, not_false_eq_true, if_true, Nat.add_one_ne_zero]
    exact hsa
  rw [peek_peek he]; rfl
end
def getE (l : List Ent) (x : Int) : Ent := match fnd l x with
  | some i => l.getD i (0, 0)
  | none => (0, 0)
def rmv (l : List Ent) (x : Int) : List Ent := match fnd l x with
  | some i => l.eraseIdx i
  | none => l
def lowE (l : List Ent) (x k : Int) : List Ent := if (fnd l x).isSome ∧ k ≤ (getE l x).1 then ins (rmv l x) (k, x) else l
def lowB (l : List Ent) (x k : Int) : Bool := (fnd l x).isSome && decide (k ≤ (getE l x).1)
theorem ins_at {e : Ent} : ∀ {l : List Ent} {i : Nat}, i ≤ l.length → (∀ j x, j < i → l[j]? = some x → Lt x e) → (∀ x, l[i]? = some x → ¬ Lt x e) → l.take i ++ e :: l.drop i = ins l e
  | [], i, h, _, _ => by simp [ins]
  | y :: l, 0, _, _, h2 => by
    rw [ins_cons, if_neg (h2 y rfl)]; rfl
  | y :: l, i + 1, h, h1, h2 => by
    rw [ins_cons, if_pos (h1 0 y (by omega) rfl), ← ins_at (l := l) (i := i) (by simpa using h) (fun j x hj hx => h1 (j + 1) x (by omega) (by simpa using hx)) (fun x hx => h2 x (by simpa using hx))]
    rfl
theorem fndI_some {l : List Ent} {x : Int} {i : Nat} (h : fnd l x = some i) : fndI l x = (i : Int) := by unfold fndI; rw [h]
theorem fndI_none {l : List Ent} {x : Int} (h : fnd l x = none) : fndI l x = -1 := by unfold fndI; rw [h]
theorem rmv_len (l : List Ent) (x : Int) : (rmv l x).length ≤ l.length := by
  unfold rmv
  split
  · exact List.length_eraseIdx_le _ _
  · exact Nat.le_refl _
section
variable {w0 : World} {M M0 F : Mem} {R : VP}
theorem Holds.freeze1 {P : Asn} {b : Nat} {cs : List Value} {e : TypeId} (h : Holds w0 F M (star (row1 b cs e) P)) : ∃ F', Mem.le F F' ∧ Own w0 F' b cs e ∧ Holds w0 F' M P := by
  obtain ⟨r, ⟨r1, r2, rfl, h1, h2⟩, h3⟩ := h
  have h4 := h3.perm List.perm_append_comm
  have h5 := h4.aside.1
  have hF : ∀ x ∈ r1, F x.1 = Option.none := fun x hx => (h3.at_ x (List.mem_append_left _ hx)).2.1
  have h1' : r1 = [(b, cs, e)] := h1
  subst h1'
  refine ⟨ext F [(b, cs, e)], le_ext hF, ⟨(h3.at_ (b, cs, e) (by simp)).1, ?_⟩, ⟨r2, h2, h5⟩⟩
  unfold ext
  simp
theorem Holds.unfrm {P : Asn} {F' : Mem} (h : Holds w0 F' M P) (hl : Mem.le F F') : Holds w0 F M P := by
  obtain ⟨r, h1, h2⟩ := h
  exact ⟨r, h1, ⟨h2.nd, fun x hx => by obtain ⟨a1, a2, a3⟩ := h2.at_ x hx; exact ⟨a1, le_none hl a2, a3⟩, Mem.le_trans hl h2.fr⟩⟩
theorem boxE {P : Asn} (hW : Holds w0 F M P) (x y : Int) {K : Nat → Mem → Prop} (hK : ∀ b F1 M1, Mem.le F F1 → Holds w0 F1 M1 P → (∀ M', Mem.le F1 M' → rd w0 M' ⟨b, 0, none⟩ = some (.int .i64 x) ∧ rd w0 M' ⟨b, 1, none⟩ = some (.int .i64 y) ∧ (std PP w0).ld 64 ⟨b, 0, none⟩ M' = some (.agg #[.int .i64 x, .int .i64 y])) → K b M1) :
    (std PP w0).nw [.int .i64 0, .int .i64 0] 64 (fun b M22 => (std PP w0).st 64 ⟨b, 0, none⟩ (.agg #[.int .i64 x, .int .i64 y]) (fun M23 => K b M23) M22) M := by
  intro b2 hb2 hw2
  have hP := Holds.new hW hb2 hw2 [.int .i64 0, .int .i64 0] 64
  refine st_agg (vs := [.int .i64 x, .int .i64 y]) W.g64 (Holds.own1 hP) (by simp) (by intro v hv; simp only [List.mem_cons, List.not_mem_nil, or_false] at hv; rcases hv with rfl | rfl <;> rfl) ?_
  have hP2 := Holds.upd1 hP (cs' := over [.int .i64 0, .int .i64 0] 0 [.int .i64 x, .int .i64 y]) (e' := 64)
  obtain ⟨F3, hle3, hown3, hW3⟩ := Holds.freeze1 hP2
  change Own w0 F3 b2 [.int .i64 x, .int .i64 y] 64 at hown3
  exact hK b2 F3 _ hle3 hW3 fun M' hl => ⟨rd_own (o := 0) (hown3.le hl), rd_own (o := 1) (hown3.le hl), ld_agg (cs := [.int .i64 x, .int .i64 y]) W.g64 (fun j v hj => by rw [add_eq, rd_own (hown3.le hl), Nat.zero_add]; exact hj)⟩
theorem boxE' {P : Asn} (hW : Holds w0 F M P) (x y : Int) {K : Nat → Mem → Prop} (hK : ∀ b F1 M1, Mem.le F F1 → Holds w0 F1 M1 P → (∀ M', Mem.le F1 M' → rd w0 M' ⟨b, 0, none⟩ = some (.int .i64 x) ∧ rd w0 M' ⟨b, 1, none⟩ = some (.int .i64 y) ∧ (std PP w0).ld 64 ⟨b, 0, none⟩ M' = some (.agg #[.int .i64 x, .int .i64 y])) → K b M1) :
    (std PP w0).nw [.int .i64 x, .int .i64 y] 64 (fun b M22 => K b M22) M := by
  intro b2 hb2 hw2
  have hP := Holds.new hW hb2 hw2 [.int .i64 x, .int .i64 y] 64
  obtain ⟨F3, hle3, hown3, hW3⟩ := Holds.freeze1 hP
  exact hK b2 F3 _ hle3 hW3 fun M' hl => ⟨rd_own (o := 0) (hown3.le hl), rd_own (o := 1) (hown3.le hl), ld_agg (cs := [.int .i64 x, .int .i64 y]) W.g64 (fun j v hj => by rw [add_eq, rd_own (hown3.le hl), Nat.zero_add]; exact hj)⟩
theorem resE {P : Asn} {b1 : Nat} {c0 c1 : Value} {x y : Int} (hN : Holds w0 F M (star (row1 b1 [c0, c1] 64) P)) {K : VP} (hK : ∀ M', Holds w0 F M' P → K (.agg #[.int .i64 x, .int .i64 y]) M') :
    (std PP w0).st 64 ⟨b1, 0, none⟩ (.agg #[.int .i64 x, .int .i64 y]) (fun M14 => ob ((std PP w0).rdv 64 (.pointer (some ⟨b1, 0, none⟩)) M14) fun v15 => K v15 M14) M := by
  refine st_agg (vs := [.int .i64 x, .int .i64 y]) W.g64 (Holds.own1 hN) (by simp) (by intro v hv; simp only [List.mem_cons, List.not_mem_nil, or_false] at hv; rcases hv with rfl | rfl <;> rfl) ?_
  have hP2 := Holds.upd1 hN (cs' := over [c0, c1] 0 [.int .i64 x, .int .i64 y]) (e' := 64)
  have o2 : Own w0 _ b1 [.int .i64 x, .int .i64 y] 64 := Holds.own1 hP2
  rw [rdv_ptr, ld_agg (cs := [.int .i64 x, .int .i64 y]) W.g64 (fun j v hj => by rw [add_eq, rd_own o2, Nat.zero_add]; exact hj), ob_v]
  exact hK _ hP2.right
def SetH (w0 : World) (F M : Mem) (T : TypeId) (s : Nat) (l : List Ent) (Q : Asn) : Prop := ∃ sv, Holds w0 F M (star (row1 s [SV.v sv] T) (star (Es sv l) Q))
theorem SetH.le {M' : Mem} {T : TypeId} {s : Nat} {l : List Ent} {Q : Asn} (h : SetH w0 F M T s l Q) (hl : Mem.le M M') : SetH w0 F M' T s l Q := by
  obtain ⟨sv, h⟩ := h
  exact ⟨sv, h.le hl⟩
theorem SetH.unfrm {F' : Mem} {T : TypeId} {s : Nat} {l : List Ent} {Q : Asn} (h : SetH w0 F' M T s l Q) (hl : Mem.le F F') : SetH w0 F M T s l Q := by
  obtain ⟨sv, h⟩ := h
  exact ⟨sv, h.unfrm hl⟩
theorem SetH.fr {T : TypeId} {s : Nat} {l : List Ent} {Q : Asn} (h : SetH w0 F M T s l Q) : Mem.le F M := by
  obtain ⟨sv, h⟩ := h
  exact h.fr
theorem SetH.rest {T : TypeId} {s : Nat} {l : List Ent} {Q : Asn} (h : SetH w0 F M T s l Q) : Holds w0 F M Q := by
  obtain ⟨sv, h⟩ := h
  exact h.right.right
theorem SetH.see {T : TypeId} {s : Nat} {l : List Ent} {Q : Asn} (h : SetH w0 F M T s l Q) : ∃ sv, Holds w0 F M (star (row1 s [SV.v sv] T) (star (Es sv l) Q)) ∧ Own w0 M s [SV.v sv] T ∧ rd w0 M ⟨s, 0, none⟩ = some (SV.v sv) ∧ RdE w0 M sv l ∧ sv.n = l.length := by
  obtain ⟨sv, h⟩ := h
  exact ⟨sv, h, h.own1, rd_own (o := 0) h.own1, h.right.rdE, h.right.lenE⟩
theorem SetH.put {T : TypeId} {s : Nat} {l m : List Ent} {sv s' : SV} {Q : Asn} (h : Holds w0 F M (star (row1 s [SV.v sv] T) (star (Es s' m) Q))) {K : Mem → Prop} (hK : ∀ M', SetH w0 F M' T s m Q → K M') : (std PP w0).st 59 ⟨s, 0, none⟩ (SV.v s') (fun M' => K M') M := by
  refine st_one W.c59 h.own1 (by simp) rfl rfl ?_
  exact hK _ ⟨s', h.upd1 (cs' := [SV.v s']) (e' := T)⟩
abbrev tS : TypeId := 109
theorem find_ok {s : Nat} {sv : SV} {l : List Ent} {x : Int} (hp : rd w0 M ⟨s, 0, none⟩ = some (SV.v sv)) (hle : ∀ M', Mem.le M M' → rd w0 M' ⟨s, 0, none⟩ = some (SV.v sv)) (hs : RdE w0 M sv l) (hb : l.length ≤ 100000) (h : ∀ M', Mem.le M M' → R (.int .i64 (fndI l x)) M') :
    C PP w0 Id.mS_find #[.pointer (some ⟨s, 0, none⟩), .int .i64 x] R M := by
  apply mS_find.go
  unfold mS_find.T
  intro b hb0 hw0
  have l1 : Mem.le M (M.set b (.row [.int .i64 x] 2)) := Mem.le_set _ hb0
  have o1 : Own w0 (M.set b (.row [.int .i64 x] 2)) b [.int .i64 x] 2 := Own.new hw0
  generalize M.set b (.row [.int .i64 x] 2) = M1 at l1 o1 ⊢
  simp only [nc_v, ld_one W.c59, hle _ l1, ob_v, shS_sv]
  refine IdxE_ok (kf := (Id.mS_find_1, #[.pointer (some ⟨b, 0, none⟩)])) (p := fun e => decide (e.2 = x)) (hs.le l1) (by omega) (fun e M2 R' he l2 hR' => ?_) fun M2 l2 => ?_
  · show C PP w0 Id.mS_find_1 #[.agg #[.int .i64 e.1, .int .i64 e.2], .pointer (some ⟨b, 0, none⟩)] R' M2
    apply mS_find_1.go
    unfold mS_find_1.T
    intro b3 hb3 hw3
    have l3 : Mem.le M2 (M2.set b3 (.row [.int .i64 e.1, .int .i64 e.2] 64)) := Mem.le_set _ hb3
    have o3 : Own w0 (M2.set b3 (.row [.int .i64 e.1, .int .i64 e.2] 64)) b3 [.int .i64 e.1, .int .i64 e.2] 64 := Own.new hw3
    have hh := hR' _ l3
    generalize M2.set b3 (.row [.int .i64 e.1, .int .i64 e.2] 64) = M3 at l3 o3 hh ⊢
    have e1 : rd w0 M3 ⟨b3, 1, none⟩ = some (.int .i64 e.2) := rd_own (o := 1) o3
    have e2 : rd w0 M3 ⟨b, 0, none⟩ = some (.int .i64 x) := rd_own (o := 0) (o1.le (Mem.le_trans l2 l3))
    simp only [go_sem, add_eq, Nat.zero_add, e1, e2]
    have : (e.2 == x) = decide (e.2 = x) := by
      by_cases h9 : e.2 = x <;> simp [h9]
    rw [this]; exact hh
  · rw [shI_v]
    exact h M2 (Mem.le_trans l1 l2)
theorem findS_ok {s : Nat} {l : List Ent} {Q : Asn} {x : Int} (h : SetH w0 F M tS s l Q) (hb : l.length ≤ 100000) (hR : ∀ M', SetH w0 F M' tS s l Q → Mem.le M M' → R (.int .i64 (fndI l x)) M') :
    C PP w0 Id.mS_find #[.pointer (some ⟨s, 0, none⟩), .int .i64 x] R M := by
  obtain ⟨sv, h1, h2, h3, h4, h5⟩ := h.see
  exact find_ok h3 (fun M' hl => rd_own (o := 0) (h2.le hl)) h4 hb fun M' hl => hR M' (h.le hl) hl
theorem put_ok {s : Nat} {l : List Ent} {e : Ent} {Q : Asn} (h : SetH w0 F M tS s l Q) (hb : l.length ≤ 10000) (hR : ∀ M', SetH w0 F M' tS s (ins l e) Q → R (.tuple #[]) M') :
    C PP w0 Id.mS_put #[.pointer (some ⟨s, 0, none⟩), .agg #[.int .i64 e.1, .int .i64 e.2]] R M := by
  apply mS_put.go
  intro pts H
  unfold mS_put.T
  obtain ⟨sv, hH, _⟩ := h.see
  refine boxE' hH e.1 e.2 fun b F1 M1 hle1 hH1 hbx => ?_
  have key : ∀ (k i : Nat) (M' : Mem), i ≤ l.length → l.length < i + k → Holds w0 F1 M' (star (row1 s [SV.v sv] tS) (star (Es sv l) Q)) → (∀ j x, j < i → l[j]? = some x → Lt x e) → mS_put.L2 pts k (some ⟨s, 0, none⟩) ⟨b, 0, none⟩ (i : Int) M' := by
    intro k
    induction k with
    | zero => intro i M' h1 h2; omega
    | succ k ih =>
      intro i M' hi hk hX hlt
      rw [H.L2]
      unfold mS_put.L2.T
      have hp := rd_own (o := 0) hX.own1
      have hrd := hX.right.rdE
      have hn := hX.right.lenE
      have hp' : rd w0 M' ⟨s, 0, none⟩ = some (SV.v sv) := hp
      have fin : (∀ x, l[i]? = some x → ¬ Lt x e) → ∀ M2, Holds w0 F1 M2 (star (row1 s [SV.v sv] tS) (star (Es sv l) Q)) → mS_put.J1 pts (some ⟨s, 0, none⟩) ⟨b, 0, none⟩ (i : Int) M2 := by
        intro hnot M2 hX2
        rw [H.J1]
        unfold mS_put.J1.T
        have hp2 : rd w0 M2 ⟨s, 0, none⟩ = some (SV.v sv) := rd_own (o := 0) hX2.own1
        simp only [nc_v, ld_one W.c59, hp2, ob_v, shS_sv, (hbx _ hX2.fr).2.2, shA_v, shCons_v, shI_v, shNil_v]
        refine newE hX2 e.1 e.2 fun M3 s3 l3 h3 => ?_
        rw [shS_sv]
        have h3' := h3.rot
        have hp3 : rd w0 M3 ⟨s, 0, none⟩ = some (SV.v sv) := rd_own (o := 0) h3'.own1
        refine ⟨hp3, ?_⟩
        have h4 : Holds w0 F1 M3 (star (Es sv l) (star (Es s3 [(e.1, e.2)]) (star (row1 s [SV.v sv] tS) Q))) := by
          obtain ⟨r, ⟨r1, r2, rfl, q1, r3, r4, rfl, q2, r5, r6, rfl, q3, q4⟩, q5⟩ := h3
          refine ⟨r5 ++ (r1 ++ (r3 ++ r6)), ⟨r5, r1 ++ (r3 ++ r6), rfl, q3, r1, r3 ++ r6, rfl, q1, r3, r6, rfl, q2, q4⟩, q5.perm ?_⟩
          have : (r1 ++ (r3 ++ (r5 ++ r6))).Perm ((r1 ++ r3) ++ (r5 ++ r6)) := by rw [List.append_assoc]
          refine this.trans ?_
          rw [← List.append_assoc r1 r3 r6, ← List.append_assoc r5, ← List.append_assoc]
          exact List.perm_append_comm.append_right r6
        refine InsE_ok h4 hi (by omega) fun M4 s4 h5 => ?_
        rw [shS_sv]
        have h6 : Holds w0 F1 M4 (star (row1 s [SV.v sv] tS) (star (Es s4 (l.take i ++ (e.1, e.2) :: l.drop i)) Q)) := by
          obtain ⟨r, ⟨r1, r2, rfl, q1, r3, r4, rfl, q2, r5, r6, rfl, q3, q4⟩, q5⟩ := h5
          refine ⟨r5 ++ (r1 ++ r6), ⟨r5, r1 ++ r6, rfl, q3, r1, r6, rfl, q1, q4⟩, (q5.perm (r' := (r5 ++ (r1 ++ r6)) ++ r3) ?_).drop⟩
          have e1 : (r1 ++ (r3 ++ (r5 ++ r6))).Perm ((r1 ++ (r5 ++ r6)) ++ r3) := by
            rw [List.append_assoc]
            exact List.perm_append_comm.append_left r1
          refine e1.trans (List.Perm.append_right _ ?_)
          rw [← List.append_assoc, ← List.append_assoc]
          exact List.perm_append_comm.append_right r6
        refine SetH.put (l := l) h6 fun M5 h7 => ?_
        refine hR M5 ?_
        have e9 : l.take i ++ (e.1, e.2) :: l.drop i = ins l e := by
          exact ins_at hi hlt hnot
        rw [← e9]
        exact h7.unfrm hle1
      simp only [nc_v, ld_one W.c59, hp', ob_v, shS_sv]
      rw [bs_decide]
      split
      · have hlt2 : i < l.length := by omega
        have ex := List.getElem?_eq_getElem hlt2
        generalize l[i] = x at ex
        refine rdE hrd (Mem.le_refl _) i rfl ex ?_
        simp only [(hbx _ hX.fr).2.2, ob_v, shA_v, shCons_v, shI_v, shNil_v]
        refine Before_ok (a := x) (b := e) fun M2 l2 => ?_
        rw [shB_v, bs_decide]
        split
        · rename_i hb2
          rw [i64_succ (by omega)]
          refine ih (i + 1) M2 (by omega) (by omega) (hX.le l2) fun j y hj hy => ?_
          by_cases hji : j = i
          · subst hji; rw [ex] at hy; cases hy; exact hb2
          · exact hlt j y (by omega) hy
        · rename_i hb2
          exact fin (fun y hy => by rw [ex] at hy; cases hy; exact hb2) M2 (hX.le l2)
      · have hie : i = l.length := by omega
        exact fin (fun y hy => by rw [hie, List.getElem?_eq_none (Nat.le_refl _)] at hy; cases hy) M' hX
  exact ⟨l.length + 1, key (l.length + 1) 0 M1 (by omega) (by omega) hH1 fun j x hj => absurd hj (by omega)⟩
theorem mNew_ok {Q : Asn} (h : Holds w0 F M Q) (hR : ∀ M' s, SetH w0 F M' tS s [] Q → Mem.le M M' → R (.pointer (some ⟨s, 0, none⟩)) M') : C PP w0 Id.model_New #[] R M := by
  apply model_New.go
  unfold model_New.T
  have hb : (std PP w0).bld 109 [] = some (.agg #[.slice none 0 0]) := by kernel_rfl
  simp only [hb, ob_v, shA_v, shCons_v, shS_v, shNil_v]
  intro b hb0 hw0
  have h1 := Holds.new (Holds.nilSlk (k := 2) h) hb0 hw0 [SV.v ⟨none, 0, 0⟩] 109
  exact hR _ b ⟨⟨none, 0, 0⟩, h1⟩ (Mem.le_set _ hb0)
theorem mInsert_ok {s : Nat} {l : List Ent} {e : Ent} {Q : Asn} (h : SetH w0 F M tS s l Q) (hb : l.length ≤ 10000) (h0 : ∀ i, fnd l e.2 = some i → ∀ M', SetH w0 F M' tS s l Q → R (.bool false) M') (h1 : fnd l e.2 = none → ∀ M', SetH w0 F M' tS s (ins l e) Q → R (.bool true) M') :
    C PP w0 Id.mS_Insert #[.pointer (some ⟨s, 0, none⟩), .agg #[.int .i64 e.1, .int .i64 e.2]] R M := by
  apply mS_Insert.go
  unfold mS_Insert.T
  obtain ⟨sv, hH⟩ := h
  refine boxE' hH e.1 e.2 fun b F1 M1 hle1 hH1 hbx => ?_
  have e1 := (hbx _ hH1.fr).2.1
  simp only [add_eq, Nat.zero_add, ld_one W.c2, e1, ob_v, shI_v]
  refine findS_ok ⟨sv, hH1⟩ (by omega) fun M2 hS2 l2 => ?_
  rw [shI_v, bs_decide]
  cases hf : fnd l e.2 with
  | some i =>
    rw [fndI_some hf, if_pos (by omega)]
    exact h0 i hf M2 (hS2.unfrm hle1)
  | none =>
    rw [fndI_none hf, if_neg (by omega)]
    simp only [(hbx _ hS2.fr).2.2, ob_v, shA_v, shCons_v, shI_v, shNil_v]
    refine put_ok hS2 hb fun M3 hS3 => ?_
    exact h1 hf M3 (hS3.unfrm hle1)
theorem mMin_ok {s : Nat} {l : List Ent} {Q : Asn} (h : SetH w0 F M tS s l Q) (hb : l.length ≤ 10000) (hR : ∀ M', SetH w0 F M' tS s l Q → R (.tuple #[.agg #[.int .i64 (l.headD (0, 0)).1, .int .i64 (l.headD (0, 0)).2], .bool (!l.isEmpty)]) M') :
    C PP w0 Id.mS_Min #[.pointer (some ⟨s, 0, none⟩)] R M := by
  apply mS_Min.go
  unfold mS_Min.T
  obtain ⟨sv, hH⟩ := h
  intro b hb0 hw0
  have hN := Holds.new hH hb0 hw0 [.int .i64 0, .int .i64 0] 64
  generalize M.set b _ = M1 at hN ⊢
  have hX := hN.right
  have hp : rd w0 M1 ⟨s, 0, none⟩ = some (SV.v sv) := rd_own (o := 0) hX.own1
  have hn := hX.right.lenE
  have hrd := hX.right.rdE
  simp only [nc_v, ld_one W.c59, hp, ob_v, shS_sv, bs_beq]
  cases l with
  | nil =>
    rw [if_pos (by rw [hn]; rfl)]
    have hbld : (std PP w0).bld 64 [] = some (.agg #[.int .i64 0, .int .i64 0]) := by kernel_rfl
    simp only [hbld, ob_v, shA_v, shCons_v, shI_v, shNil_v]
    exact resE (K := fun v M => R (.tuple #[v, .bool false]) M) hN fun M2 h2 => hR M2 ⟨sv, h2⟩
  | cons x l =>
    simp only [List.length_cons] at hn
    rw [if_neg (by omega)]
    refine rdE (i := 0) hrd (Mem.le_refl _) 0 rfl rfl ?_
    exact resE (K := fun v M => R (.tuple #[v, .bool true]) M) hN fun M2 h2 => hR M2 ⟨sv, h2⟩
theorem mFind_ok {s : Nat} {l : List Ent} {Q : Asn} {x : Int} (h : SetH w0 F M tS s l Q) (hb : l.length ≤ 10000) (hR : ∀ M', SetH w0 F M' tS s l Q → R (.tuple #[.agg #[.int .i64 (getE l x).1, .int .i64 (getE l x).2], .bool (fnd l x).isSome]) M') :
    C PP w0 Id.mS_Find #[.pointer (some ⟨s, 0, none⟩), .int .i64 x] R M := by
  apply mS_Find.go
  unfold mS_Find.T
  obtain ⟨sv, hH⟩ := h
  intro b hb0 hw0
  have hN := Holds.new hH hb0 hw0 [.int .i64 0, .int .i64 0] 64
  generalize M.set b _ = M1 at hN ⊢
  refine findS_ok (Q := Q) ⟨sv, hN.right⟩ (by omega) fun M2 _ l2 => ?_
  have hN2 := hN.le l2
  have hX := hN2.right
  have hp : rd w0 M2 ⟨s, 0, none⟩ = some (SV.v sv) := rd_own (o := 0) hX.own1
  have hrd := hX.right.rdE
  rw [shI_v, bs_decide]
  cases hf : fnd l x with
  | none =>
    rw [fndI_none hf, if_pos (by omega)]
    have hbld : (std PP w0).bld 64 [] = some (.agg #[.int .i64 0, .int .i64 0]) := by kernel_rfl
    simp only [hbld, ob_v, shA_v, shCons_v, shI_v, shNil_v]
    refine resE (K := fun v M => R (.tuple #[v, .bool false]) M) hN2 fun M3 h3 => ?_
    have := hR M3 ⟨sv, h3⟩
    unfold getE at this
    rw [hf] at this; exact this
  | some i =>
    obtain ⟨y, hy, _⟩ := fnd_some hf
    rw [fndI_some hf, if_neg (by omega)]
    simp only [nc_v, ld_one W.c59, hp, ob_v, shS_sv]
    refine rdE hrd (Mem.le_refl _) i rfl hy ?_
    refine resE (K := fun v M => R (.tuple #[v, .bool true]) M) hN2 fun M3 h3 => ?_
    have := hR M3 ⟨sv, h3⟩
    unfold getE at this
    rw [hf] at this
    simp only [List.getD_eq_getElem?_getD, hy, Option.getD_some] at this
    exact this
theorem mPop_ok {s : Nat} {l : List Ent} {Q : Asn} (h : SetH w0 F M tS s l Q) (hb : l.length ≤ 10000) (hR : ∀ M', SetH w0 F M' tS s l.tail Q → R (.tuple #[.agg #[.int .i64 (l.headD (0, 0)).1, .int .i64 (l.headD (0, 0)).2], .bool (!l.isEmpty)]) M') :
    C PP w0 Id.mS_Pop #[.pointer (some ⟨s, 0, none⟩)] R M := by
  apply mS_Pop.go
  unfold mS_Pop.T
  obtain ⟨sv, hH⟩ := h
  intro b hb0 hw0
  have hN := Holds.new hH hb0 hw0 [.int .i64 0, .int .i64 0] 64
  generalize M.set b _ = M1 at hN ⊢
  have hN' : SetH w0 F M1 tS s l (star (row1 b [.int .i64 0, .int .i64 0] 64) Q) := ⟨sv, by
    obtain ⟨r, ⟨r1, r2, rfl, q1, r3, r4, rfl, q2, r5, r6, rfl, q3, q4⟩, q5⟩ := hN
    refine ⟨r3 ++ (r5 ++ (r1 ++ r6)), ⟨r3, _, rfl, q2, r5, _, rfl, q3, r1, r6, rfl, q1, q4⟩, q5.perm ?_⟩
    rw [← List.append_assoc r3, ← List.append_assoc r3, ← List.append_assoc (r3 ++ r5), ← List.append_assoc r1]
    exact List.perm_append_comm.append_right r6⟩
  refine mMin_ok hN' hb fun M2 hS2 => ?_
  simp only [shT_v, shCons_v, shA_v, shI_v, shNil_v, shB_v]
  obtain ⟨sv2, hH2⟩ := hS2
  refine boxE hH2 (l.headD (0, 0)).1 (l.headD (0, 0)).2 fun b3 F3 M3 hle3 hH3 hbx => ?_
  have fin : ∀ (M4 : Mem) (m : List Ent), SetH w0 F3 M4 tS s m (star (row1 b [.int .i64 0, .int .i64 0] 64) Q) → m = l.tail → ∀ bb, bb = (!l.isEmpty) →
      ob ((std PP w0).ld 64 ⟨b3, 0, none⟩ M4) fun v29 => shA v29 fun l30 => shCons l30 fun u31 r32 => shI .i64 u31 fun n33 => shCons r32 fun u34 r35 => shI .i64 u34 fun n36 => shNil r35 ((std PP w0).st 64 ⟨b, 0, none⟩ (.agg #[.int .i64 n33, .int .i64 n36]) (fun M37 => ob ((std PP w0).rdv 64 (.pointer (some ⟨b, 0, none⟩)) M37) fun v38 => R (.tuple #[v38, .bool bb]) M37) M4) := by
    intro M4 m hS4 hm bb hbb
    simp only [(hbx _ hS4.fr).2.2, ob_v, shA_v, shCons_v, shI_v, shNil_v]
    obtain ⟨sv4, hH4⟩ := hS4
    have hH5 : Holds w0 F3 M4 (star (row1 b [.int .i64 0, .int .i64 0] 64) (star (row1 s [SV.v sv4] tS) (star (Es sv4 m) Q))) := by
      obtain ⟨r, ⟨r3, r2, rfl, q2, r5, r4, rfl, q3, r1, r6, rfl, q1, q4⟩, q5⟩ := hH4
      refine ⟨r1 ++ (r3 ++ (r5 ++ r6)), ⟨r1, _, rfl, q1, r3, _, rfl, q2, r5, r6, rfl, q3, q4⟩, q5.perm ?_⟩
      rw [← List.append_assoc r3, ← List.append_assoc r3, ← List.append_assoc (r3 ++ r5), ← List.append_assoc r1]
      exact List.perm_append_comm.append_right r6
    refine resE (K := fun v M => R (.tuple #[v, .bool bb]) M) hH5 fun M5 h5 => ?_
    rw [hbb]
    refine hR M5 ?_
    rw [← hm]
    exact SetH.unfrm ⟨sv4, h5⟩ hle3
  cases l with
  | nil =>
    simp only [List.isEmpty_nil, Bool.not_true, bs_false]
    exact fin M3 [] ⟨sv2, hH3⟩ rfl false rfl
  | cons y l =>
    simp only [List.isEmpty_cons, Bool.not_false, bs_true]
    have hp3 : rd w0 M3 ⟨s, 0, none⟩ = some (SV.v sv2) := rd_own (o := 0) hH3.own1
    simp only [nc_v, ld_one W.c59, hp3, ob_v, shS_sv]
    refine DelE_ok (i := 0) hH3.rot (by simp) (by omega) fun M4 s4 h4 => ?_
    rw [shS_sv]
    refine SetH.put (l := y :: l) h4.rot fun M5 h5 => ?_
    exact fin M5 _ h5 rfl true rfl
theorem mRemove_ok {s : Nat} {l : List Ent} {Q : Asn} {x : Int} (h : SetH w0 F M tS s l Q) (hb : l.length ≤ 10000) (hR : ∀ M', SetH w0 F M' tS s (rmv l x) Q → R (.tuple #[.agg #[.int .i64 (getE l x).1, .int .i64 (getE l x).2], .bool (fnd l x).isSome]) M') :
    C PP w0 Id.mS_Remove #[.pointer (some ⟨s, 0, none⟩), .int .i64 x] R M := by
  apply mS_Remove.go
  unfold mS_Remove.T
  obtain ⟨sv, hH⟩ := h
  intro b hb0 hw0
  have hN := Holds.new hH hb0 hw0 [.int .i64 0, .int .i64 0] 64
  generalize M.set b _ = M1 at hN ⊢
  have hN' : SetH w0 F M1 tS s l (star (row1 b [.int .i64 0, .int .i64 0] 64) Q) := ⟨sv, by
    obtain ⟨r, ⟨r1, r2, rfl, q1, r3, r4, rfl, q2, r5, r6, rfl, q3, q4⟩, q5⟩ := hN
    refine ⟨r3 ++ (r5 ++ (r1 ++ r6)), ⟨r3, _, rfl, q2, r5, _, rfl, q3, r1, r6, rfl, q1, q4⟩, q5.perm ?_⟩
    rw [← List.append_assoc r3, ← List.append_assoc r3, ← List.append_assoc (r3 ++ r5), ← List.append_assoc r1]
    exact List.perm_append_comm.append_right r6⟩
  refine mFind_ok hN' hb fun M2 hS2 => ?_
  simp only [shT_v, shCons_v, shA_v, shI_v, shNil_v, shB_v]
  obtain ⟨sv2, hH2⟩ := hS2
  refine boxE hH2 (getE l x).1 (getE l x).2 fun b3 F3 M3 hle3 hH3 hbx => ?_
  have fin : ∀ (M4 : Mem) (m : List Ent), SetH w0 F3 M4 tS s m (star (row1 b [.int .i64 0, .int .i64 0] 64) Q) → m = rmv l x → ∀ bb, bb = (fnd l x).isSome →
      ob ((std PP w0).ld 64 ⟨b3, 0, none⟩ M4) fun v29 => shA v29 fun l30 => shCons l30 fun u31 r32 => shI .i64 u31 fun n33 => shCons r32 fun u34 r35 => shI .i64 u34 fun n36 => shNil r35 ((std PP w0).st 64 ⟨b, 0, none⟩ (.agg #[.int .i64 n33, .int .i64 n36]) (fun M37 => ob ((std PP w0).rdv 64 (.pointer (some ⟨b, 0, none⟩)) M37) fun v38 => R (.tuple #[v38, .bool bb]) M37) M4) := by
    intro M4 m hS4 hm bb hbb
    simp only [(hbx _ hS4.fr).2.2, ob_v, shA_v, shCons_v, shI_v, shNil_v]
    obtain ⟨sv4, hH4⟩ := hS4
    have hH5 : Holds w0 F3 M4 (star (row1 b [.int .i64 0, .int .i64 0] 64) (star (row1 s [SV.v sv4] tS) (star (Es sv4 m) Q))) := by
      obtain ⟨r, ⟨r3, r2, rfl, q2, r5, r4, rfl, q3, r1, r6, rfl, q1, q4⟩, q5⟩ := hH4
      refine ⟨r1 ++ (r3 ++ (r5 ++ r6)), ⟨r1, _, rfl, q1, r3, _, rfl, q2, r5, r6, rfl, q3, q4⟩, q5.perm ?_⟩
      rw [← List.append_assoc r3, ← List.append_assoc r3, ← List.append_assoc (r3 ++ r5), ← List.append_assoc r1]
      exact List.perm_append_comm.append_right r6
    refine resE (K := fun v M => R (.tuple #[v, .bool bb]) M) hH5 fun M5 h5 => ?_
    rw [hbb]
    refine hR M5 ?_
    rw [← hm]
    exact SetH.unfrm ⟨sv4, h5⟩ hle3
  cases hf : fnd l x with
  | none =>
    simp only [Option.isSome_none, bs_false]
    exact fin M3 l ⟨sv2, hH3⟩ (by unfold rmv; rw [hf]) false (by rw [hf]; rfl)
  | some i =>
    obtain ⟨y, hy, _⟩ := fnd_some hf
    have hil := (List.getElem?_eq_some_iff.1 hy).1
    simp only [Option.isSome_some, bs_true]
    refine findS_ok (Q := star (row1 b [.int .i64 0, .int .i64 0] 64) Q) ⟨sv2, hH3⟩ (by omega) fun M4 _ l4 => ?_
    have hH4 := hH3.le l4
    have hp4 : rd w0 M4 ⟨s, 0, none⟩ = some (SV.v sv2) := rd_own (o := 0) hH4.own1
    rw [fndI_some hf]
    simp only [nc_v, ld_one W.c59, hp4, ob_v, shS_sv, shI_v]
    rw [i64_succ (by omega)]
    refine DelE_ok (i := i) hH4.rot hil (by omega) fun M5 s5 h5 => ?_
    rw [shS_sv]
    refine SetH.put (l := l) h5.rot fun M6 h6 => ?_
    exact fin M6 _ h6 (by unfold rmv; rw [hf]) true (by rw [hf]; rfl)
theorem mLower_ok {s : Nat} {l : List Ent} {Q : Asn} {x k : Int} (h : SetH w0 F M tS s l Q) (hb : l.length ≤ 10000) (hR : ∀ M', SetH w0 F M' tS s (lowE l x k) Q → R (.bool (lowB l x k)) M') :
    C PP w0 Id.mS_Lower #[.pointer (some ⟨s, 0, none⟩), .int .i64 x, .int .i64 k] R M := by
  apply mS_Lower.go
  intro pts H
  unfold mS_Lower.T
  refine mFind_ok h hb fun M1 hS1 => ?_
  simp only [shT_v, shCons_v, shA_v, shI_v, shNil_v, shB_v]
  obtain ⟨sv1, hH1⟩ := hS1
  refine boxE hH1 (getE l x).1 (getE l x).2 fun b3 F3 M3 hle3 hH3 hbx => ?_
  cases hf : fnd l x with
  | none =>
    simp only [Option.isSome_none, Bool.not_false, bs_true]
    have := hR M3 (by unfold lowE; rw [hf, if_neg (by simp)]; exact SetH.unfrm ⟨sv1, hH3⟩ hle3)
    unfold lowB at this
    rw [hf] at this; exact this
  | some i =>
    simp only [Option.isSome_some, Bool.not_true, bs_false]
    have e1 := (hbx _ hH3.fr).1
    simp only [ld_one W.c2, e1, ob_v, shI_v]
    rw [bs_decide]
    split
    · rename_i hgt
      have := hR M3 (by unfold lowE; rw [if_neg (fun h9 => by have := h9.2; omega)]; exact SetH.unfrm ⟨sv1, hH3⟩ hle3)
      unfold lowB at this
      rw [hf, decide_eq_false (by omega)] at this; exact this
    · rename_i hgt
      rw [H.J1]
      unfold mS_Lower.J1.T
      refine mRemove_ok ⟨sv1, hH3⟩ hb fun M4 hS4 => ?_
      have hbl : (std PP w0).bld 64 [(0, .int .i64 k), (1, .int .i64 x)] = some (.agg #[.int .i64 k, .int .i64 x]) := by kernel_rfl
      simp only [shT_v, shCons_v, shA_v, shI_v, shNil_v, shB_v, hbl, ob_v]
      refine put_ok (e := (k, x)) hS4 (Nat.le_trans (rmv_len l x) hb) fun M5 hS5 => ?_
      have := hR M5 (by unfold lowE; rw [if_pos ⟨by rw [hf]; rfl, by omega⟩]; exact hS5.unfrm hle3)
      unfold lowB at this
      rw [hf, decide_eq_true (by omega)] at this; exact this
theorem mLen_ok {s : Nat} {l : List Ent} {Q : Asn} (h : SetH w0 F M tS s l Q) (hR : R (.int .i64 (l.length : Int)) M) : C PP w0 Id.mS_Len #[.pointer (some ⟨s, 0, none⟩)] R M := by
  apply mS_Len.go
  unfold mS_Len.T
  obtain ⟨sv, h1, h2, h3, h4, h5⟩ := h.see
  simp only [nc_v, ld_one W.c59, h3, ob_v, shS_sv, h5]
  exact hR
theorem mJoin_ok {s t : Nat} {l m : List Ent} {Q : Asn} {sv tv : SV} (h : Holds w0 F M (star (row1 t [SV.v tv] tS) (star (Es tv m) (star (row1 s [SV.v sv] tS) (star (Es sv l) Q))))) (hb : l.length + m.length ≤ 10000)
    (h0 : (∃ e ∈ m, (fnd l e.2).isSome = true) → ∀ M' sv' tv', Holds w0 F M' (star (row1 t [SV.v tv'] tS) (star (Es tv' m) (star (row1 s [SV.v sv'] tS) (star (Es sv' l) Q)))) → R (.bool false) M')
    (h1 : (∀ e ∈ m, fnd l e.2 = none) → ∀ M' sv' tv', Holds w0 F M' (star (row1 t [SV.v tv'] tS) (star (Es tv' []) (star (row1 s [SV.v sv'] tS) (star (Es sv' (insAll l m)) Q)))) → R (.bool true) M') :
    C PP w0 Id.mS_Join #[.pointer (some ⟨s, 0, none⟩), .pointer (some ⟨t, 0, none⟩)] R M := by
  apply mS_Join.go
  intro pts H
  unfold mS_Join.T
  intro b hb0 hw0
  have hN := Holds.new h hb0 hw0 [.pointer (some ⟨s, 0, none⟩)] 81
  obtain ⟨F1, hle1, hown, hH⟩ := Holds.freeze1 hN
  generalize M.set b _ = M1 at hH ⊢
  have hbx : ∀ M', Mem.le F1 M' → rd w0 M' ⟨b, 0, none⟩ = some (.pointer (some ⟨s, 0, none⟩)) := fun M' hl => rd_own (o := 0) (hown.le hl)
  have ot := hH.own1
  have os := hH.right.right.own1
  have hts : t ≠ s := fun e => by
    subst e
    obtain ⟨r, ⟨r1, r2, rfl, q1, r3, r4, rfl, q2, r5, r6, rfl, q3, q4⟩, q5⟩ := hH
    have h9 := q5.nd
    have e1 : r1 = [(t, [SV.v tv], tS)] := q1
    have e2 : r5 = [(t, [SV.v sv], tS)] := q3
    rw [e1, e2] at h9
    simp at h9
  have hpt : rd w0 M1 ⟨t, 0, none⟩ = some (SV.v tv) := rd_own (o := 0) ot
  have hps : rd w0 M1 ⟨s, 0, none⟩ = some (SV.v sv) := rd_own (o := 0) os
  simp only [go_sem, Option.isNone_some, bs_false, hbx _ hH.fr]
  rw [ptr_ne (n := 0) Try.underlying81 (by kernel_rfl) hts ot os]
  simp only [ob_v, shB_v, bs_false, hpt, shS_sv]
  have hrt := hH.right.rdE
  have hrs := hH.right.right.right.rdE
  apply sl_ContainsFuncaE_aE.go _ tv (Id.mS_Join_1, #[.pointer (some ⟨b, 0, none⟩)])
  unfold sl_ContainsFuncaE_aE.T
  refine IdxE_ok (kf := (Id.mS_Join_1, #[.pointer (some ⟨b, 0, none⟩)])) (p := fun e => (fnd l e.2).isSome) hrt (by omega) (fun e M2 R' he l2 hR' => ?_) fun M2 l2 => ?_
  · show C PP w0 Id.mS_Join_1 #[.agg #[.int .i64 e.1, .int .i64 e.2], .pointer (some ⟨b, 0, none⟩)] R' M2
    apply mS_Join_1.go
    unfold mS_Join_1.T
    intro b3 hb3 hw3
    have l3 : Mem.le M2 (M2.set b3 (.row [.int .i64 e.1, .int .i64 e.2] 64)) := Mem.le_set _ hb3
    have o3 : Own w0 (M2.set b3 (.row [.int .i64 e.1, .int .i64 e.2] 64)) b3 [.int .i64 e.1, .int .i64 e.2] 64 := Own.new hw3
    generalize M2.set b3 (.row [.int .i64 e.1, .int .i64 e.2] 64) = M3 at l3 o3 ⊢
    have e1 : rd w0 M3 ⟨b3, 1, none⟩ = some (.int .i64 e.2) := rd_own (o := 1) o3
    have l13 := Mem.le_trans l2 l3
    have e2 := hbx M3 (Mem.le_trans hH.fr l13)
    simp only [go_sem, add_eq, Nat.zero_add, e1, e2]
    refine find_ok (sv := sv) (l := l) (rd_own (o := 0) (os.le l13)) (fun M' hl => rd_own (o := 0) (os.le (Mem.le_trans l13 hl))) (hrs.le l13) (by omega) fun M4 l4 => ?_
    rw [shI_v]
    have h9 := hR' M4 (Mem.le_trans l3 l4)
    have : decide (fndI l e.2 ≥ 0) = (fnd l e.2).isSome := by
      cases hf : fnd l e.2 with
      | none => rw [fndI_none hf]; rfl
      | some i => rw [fndI_some hf]; exact decide_eq_true (by omega)
    rw [this]; exact h9
  · rw [shI_v]
    have hH2 := hH.le l2
    cases hf : m.findIdx? (fun e => (fnd l e.2).isSome) with
    | some i =>
      obtain ⟨hi, h9, _⟩ := List.findIdx?_eq_some_iff_getElem.1 hf
      simp only [shB_v]
      rw [bs_decide, if_pos (by omega)]
      exact h0 ⟨m[i], List.getElem_mem hi, h9⟩ M2 sv tv (hH2.unfrm hle1)
    | none =>
      have hno : ∀ e ∈ m, fnd l e.2 = none := fun e he => by
        have := List.findIdx?_eq_none_iff.1 hf e he
        cases h9 : fnd l e.2 with
        | none => rfl
        | some i => rw [h9] at this; cases this
      simp only [shB_v]
      rw [bs_decide, if_neg (by omega), H.J1]
      unfold mS_Join.J1.T
      have hpt2 : rd w0 M2 ⟨t, 0, none⟩ = some (SV.v tv) := rd_own (o := 0) hH2.own1
      simp only [nc_v, ld_one W.c59, hpt2, ob_v, shS_sv]
      have hn := hH2.right.lenE
      have key : ∀ (rest : List Ent) (j : Nat) (k : Nat) (done : List Ent) (M' : Mem), rest.length < k → m.drop j = rest → j ≤ m.length → done.length = l.length + j → SetH w0 F1 M' tS s done (star (row1 t [SV.v tv] tS) (star (Es tv m) Q)) → (insAll done rest = insAll l m) →
          mS_Join.L2 pts k (some ⟨t, 0, none⟩) ⟨b, 0, none⟩ tv ((tv.n : Nat) : Int) (j : Int) M' := by
        intro rest
        induction rest with
        | nil =>
          intro j k done M' hk hd hj hdl hS hi
          obtain ⟨k, rfl⟩ : ∃ k', k = k' + 1 := ⟨k - 1, by simp at hk; omega⟩
          rw [H.L2]
          unfold mS_Join.L2.T
          have : m.length ≤ j := List.drop_eq_nil_iff.1 hd
          rw [bs_decide, if_neg (by omega)]
          obtain ⟨sv', hX⟩ := hS
          have hX2 : Holds w0 F1 M' (star (row1 t [SV.v tv] tS) (star (Es tv m) (star (row1 s [SV.v sv'] tS) (star (Es sv' done) Q)))) := by
            obtain ⟨r, ⟨r1, r2, rfl, q1, r3, r4, rfl, q2, r5, r6, rfl, q3, r7, r8, rfl, q4, q5⟩, q6⟩ := hX
            refine ⟨r5 ++ (r7 ++ (r1 ++ (r3 ++ r8))), ⟨r5, _, rfl, q3, r7, _, rfl, q4, r1, _, rfl, q1, r3, r8, rfl, q2, q5⟩, q6.perm ?_⟩
            have e1 : r1 ++ (r3 ++ (r5 ++ (r7 ++ r8))) = ((r1 ++ r3) ++ (r5 ++ r7)) ++ r8 := by simp
            have e2 : r5 ++ (r7 ++ (r1 ++ (r3 ++ r8))) = ((r5 ++ r7) ++ (r1 ++ r3)) ++ r8 := by simp
            rw [e1, e2]
            exact List.perm_append_comm.append_right r8
          simp only [nc_v]
          have hdone : done = insAll l m := by simpa [insAll] using hi
          refine st_one W.c59 hX2.own1 (by simp) rfl rfl ?_
          have hX3 := hX2.upd1 (cs' := [SV.v ⟨none, 0, 0⟩]) (e' := tS)
          refine h1 hno _ sv' ⟨none, 0, 0⟩ (Holds.unfrm (F' := F1) ?_ hle1)
          rw [← hdone]
          obtain ⟨r, ⟨r1, r2, rfl, q1, r3, r4, rfl, q2, q3⟩, q4⟩ := hX3
          refine ⟨r1 ++ ([] ++ r4), ⟨r1, _, rfl, q1, [], r4, rfl, .inl ⟨rfl, rfl, rfl⟩, q3⟩, (q4.perm (r' := (r1 ++ ([] ++ r4)) ++ r3) ?_).drop⟩
          rw [List.nil_append, List.append_assoc]
          exact List.perm_append_comm.append_left r1
        | cons e rest ih =>
          intro j k done M' hk hd hj hdl hS hi
          obtain ⟨k, rfl⟩ : ∃ k', k = k' + 1 := ⟨k - 1, by simp at hk; omega⟩
          rw [H.L2]
          unfold mS_Join.L2.T
          have hlt : j < m.length := by
            apply Decidable.byContradiction
            intro hc
            rw [List.drop_of_length_le (by omega)] at hd; cases hd
          have hdx := List.drop_eq_getElem_cons hlt
          rw [hd] at hdx
          injection hdx with e1 e2
          have hmj : m[j]? = some e := by rw [List.getElem?_eq_getElem hlt, e1]
          rw [bs_decide, if_pos (by omega)]
          obtain ⟨sv', hX⟩ := hS
          have hrt' := hX.right.right.right.rdE
          refine rdE hrt' (Mem.le_refl _) j rfl hmj ?_
          refine boxE hX e.1 e.2 fun b4 F4 M4 hle4 hH4 hbx4 => ?_
          have hb4 := hbx M4 (Mem.le_trans hle4 hH4.fr)
          simp only [ld_one W.c81, hb4, ob_v, shP_v, (hbx4 _ hH4.fr).2.2, shA_v, shCons_v, shI_v, shNil_v]
          refine put_ok (e := e) ⟨sv', hH4⟩ (by omega) fun M5 hS5 => ?_
          rw [i64_succ (by omega)]
          exact ih (j + 1) k (ins done e) M5 (by simp at hk; omega) e2.symm (by omega) (by rw [ins_len]; omega) (hS5.unfrm hle4) hi
      refine ⟨m.length + 1, key m 0 (m.length + 1) l M2 (by omega) rfl (by omega) rfl ⟨sv, ?_⟩ rfl⟩
      obtain ⟨r, ⟨r1, r2, rfl, q1, r3, r4, rfl, q2, r5, r6, rfl, q3, r7, r8, rfl, q4, q5⟩, q6⟩ := hH2
      refine ⟨r5 ++ (r7 ++ (r1 ++ (r3 ++ r8))), ⟨r5, _, rfl, q3, r7, _, rfl, q4, r1, _, rfl, q1, r3, r8, rfl, q2, q5⟩, q6.perm ?_⟩
      have e1 : r1 ++ (r3 ++ (r5 ++ (r7 ++ r8))) = ((r1 ++ r3) ++ (r5 ++ r7)) ++ r8 := by simp
      have e2 : r5 ++ (r7 ++ (r1 ++ (r3 ++ r8))) = ((r5 ++ r7) ++ (r1 ++ r3)) ++ r8 := by simp
      rw [e1, e2]
      exact List.perm_append_comm.append_right r8
end
end Go.Proofs.Ytedofpnjmnkedaa.HL
namespace Go.Proofs.Ytedofpnjmnkedaa.HL
open Go.RowKit (Below)
open Go.Proofs
theorem srt_put {l : List Ent} {e : Ent} {k : Nat} (hk : k ≤ l.length) (hs : Srt l) (h1 : ∀ (j : Nat) x, k ≤ j → l[j]? = some x → Lt e x) (h2 : ∀ x, 0 < k → l[k - 1]? = some x → ¬ Lt e x) : Srt (l.take k ++ e :: l.drop k) := by
  have hs2 : Srt (l.take k ++ l.drop k) := by rw [List.take_append_drop]; exact hs
  obtain ⟨a1, a2, a3⟩ := List.pairwise_append.1 hs2
  refine List.pairwise_append.2 ⟨a1, List.pairwise_cons.2 ⟨fun x hx => ?_, a2⟩, fun x hx y hy => ?_⟩
  · obtain ⟨j, hj⟩ := List.getElem?_of_mem hx
    rw [List.getElem?_drop] at hj
    exact (h1 (k + j) x (by omega) hj).asym
  · rcases List.mem_cons.1 hy with rfl | hy
    · -- not behind it
      obtain ⟨j, hj⟩ := List.getElem?_of_mem hx
      have hjk : j < k := by
        have := (List.getElem?_eq_some_iff.1 hj).1
        rw [List.length_take] at this; omega
      rw [List.getElem?_take_of_lt hjk] at hj
      by_cases hj2 : j = k - 1
      · subst hj2
        exact h2 x (by omega) hj
      · have hlt : k - 1 < l.length := by omega
        have hk1 := List.getElem?_eq_getElem hlt
        have h3 := h2 _ (by omega) hk1
        have h4 : ¬ Lt l[k - 1] x := by
          have hjl := (List.getElem?_eq_some_iff.1 hj).1
          have := (List.pairwise_iff_getElem.1 hs) j (k - 1) hjl hlt (by omega)
          rw [(List.getElem?_eq_some_iff.1 hj).2] at this
          exact this
        exact nLt.tr h4 h3
    · exact a3 x hx y hy
section
variable {w0 : World} {M M0 F : Mem} {R : VP}
def emp : Asn := fun r => r = []
theorem Holds.self {P : Asn} (h : Holds w0 F M P) : Holds w0 M M emp := ⟨[], rfl, Fit.nil (Mem.le_refl _)⟩
theorem Holds.unself {P A : Asn} {M' : Mem} (h : Holds w0 F M P) (h2 : Holds w0 M M' (star A emp)) : Mem.le M M' ∧ Holds w0 F M' (star A P) := by
  refine ⟨h2.fr, h.beside ?_⟩
  obtain ⟨r, ⟨r1, r2, rfl, h3, h4⟩, h5⟩ := h2
  have : r2 = [] := h4
  subst this
  rw [List.append_nil] at h5
  exact ⟨r1, h3, h5⟩
theorem Holds.skip2 {A B Q : Asn} (h : Holds w0 F M (star A (star B Q))) : Holds w0 F M (star A Q) := by
  obtain ⟨r, ⟨r1, r2, rfl, q1, r3, r4, rfl, q2, q3⟩, q4⟩ := h
  exact ⟨r1 ++ r4, ⟨r1, r4, rfl, q1, q3⟩, (q4.perm (r' := (r1 ++ r4) ++ r3) (by rw [List.append_assoc]; exact (List.perm_append_comm).append_left r1)).drop⟩
theorem rSort_ok {Q : Asn} {s : SV} {l : List Ent} (hQ : Holds w0 F M Q) (hs : RdE w0 M s l) (hb : l.length ≤ 100000) (h : ∀ M' s' z, Mem.le M M' → Holds w0 F M' (star (Es s' z) Q) → Srt z → z.Perm l → R (SV.v s') M') : C PP w0 Id.r1_Sort #[SV.v s] R M := by
  apply r1_Sort.go
  intro pts H
  unfold r1_Sort.T
  have hsn := hs.len
  have outer : ∀ (k i : Nat) (out : SV) (z : List Ent) (M' : Mem), i ≤ l.length → l.length < i + k → Holds w0 M M' (star (Es out z) emp) → Srt z → z.Perm (l.take i) → r1_Sort.L1 pts k s out (i : Int) M' := by
    intro k
    induction k with
    | zero => intro i out z M' h1 h2; omega
    | succ k ih =>
      intro i out z M' hi hk hH hz hp
      rw [H.L1]
      unfold r1_Sort.L1.T
      rw [bs_decide]
      split
      · have hlt : i < l.length := by omega
        have ex := List.getElem?_eq_getElem hlt
        generalize hxv : l[i] = x at ex
        have hzl : z.length = i := by rw [hp.length_eq, List.length_take]; omega
        have fin : ∀ (kk : Nat) (M2 : Mem), kk ≤ z.length → Holds w0 M M2 (star (Es out z) emp) → (∀ (j : Nat) y, kk ≤ j → z[j]? = some y → Lt x y) → (∀ y, 0 < kk → z[kk - 1]? = some y → ¬ Lt x y) → r1_Sort.J2 pts k s out (i : Int) (kk : Int) M2 := by
          intro kk M2 hkk hH2 hj1 hj2
          have hz2 := srt_put hkk hz hj1 hj2
          have hp2 : (z.take kk ++ x :: z.drop kk).Perm (l.take (i + 1)) := by
            refine List.perm_middle.trans ?_
            rw [List.take_append_drop, List.take_add_one, ex]
            exact (List.Perm.cons x hp).trans (List.perm_append_singleton x _).symm
          rw [H.J2]
          unfold r1_Sort.J2.T
          have hn2 := hH2.lenE
          have hc2 := hH2.rdE.cap
          have t0 : (0 : Int).toNat = 0 := rfl
          simp only [t0, Int.toNat_natCast]
          refine ⟨⟨by omega, by omega, by omega⟩, ?_⟩
          have last : ∀ {X : Asn} (M5 : Mem) (s5 : SV), Holds w0 M M5 (star (Es s5 (z.take kk ++ [x])) (star (Es out z) X)) → (∀ r, X r → True) →
              (std PP w0).app #[59, 59] 59 [SV.v s5, .slice (if out.c = kk then out.a else out.a.map (·.add (kk * 2))) (out.n - kk) (out.c - kk)] (fun v24 M25 => shS v24 fun s26 => r1_Sort.L1 pts k s s26 (w64 ((i : Int) + 1)) M25) M5 := by
            intro X M5 s5 hX _
            have hr := hX.right.rdE.cut (lo := kk) (hi := z.length) hkk (Nat.le_refl _)
            rw [List.take_length] at hr
            rw [hn2]
            refine appE (x := out.cut kk z.length) hX hr (by simp; omega) fun M6 s6 h6 => ?_
            rw [shS_sv, i64_succ (by omega)]
            refine ih (i + 1) s6 (z.take kk ++ x :: z.drop kk) M6 (by omega) (by omega) ?_ hz2 hp2
            obtain ⟨r, ⟨r1, r2, rfl, q1, q2⟩, q3⟩ := h6
            refine ⟨r1 ++ [], ⟨r1, [], rfl, by simpa using q1, rfl⟩, ?_⟩
            rw [List.append_nil]
            exact q3.drop
          have mid : ∀ {X : Asn} (M4 : Mem) (s4 s3 : SV), Holds w0 M M4 (star (Es s4 (z.take kk)) (star (Es s3 [(x.1, x.2)]) (star (Es out z) X))) →
              (std PP w0).app #[59, 59] 59 [SV.v s4, SV.v s3] (fun v M => shS v fun s5 => (std PP w0).app #[59, 59] 59 [SV.v s5, .slice (if out.c = kk then out.a else out.a.map (·.add (kk * 2))) (out.n - kk) (out.c - kk)] (fun v24 M25 => shS v24 fun s26 => r1_Sort.L1 pts k s s26 (w64 ((i : Int) + 1)) M25) M) M4 := by
            intro X M4 s4 s3 hX
            refine appE hX hX.right.rdE (by simp; omega) fun M5 s5 h5 => ?_
            rw [shS_sv]
            exact last M5 s5 h5.skip2 (fun _ _ => trivial)
          have head : ∀ {X : Asn} (M3 : Mem) (s3 : SV) (K : VP), Holds w0 M M3 (star (Es s3 []) (star (Es out z) X)) → (∀ M4 s4, Holds w0 M M4 (star (Es s4 (z.take kk)) (star (Es out z) X)) → K (SV.v s4) M4) →
              (std PP w0).app #[59, 59] 59 [SV.v s3, .slice (if out.c = 0 then out.a else out.a.map (·.add (0 * 2))) (kk - 0) (out.c - 0)] K M3 := by
            intro X M3 s3 K hX hK
            have hr := hX.right.rdE.cut (lo := 0) (hi := kk) (by omega) hkk
            rw [List.drop_zero] at hr
            refine appE (x := out.cut 0 kk) hX hr (by simp; omega) fun M4 s4 h4 => ?_
            rw [List.nil_append] at h4
            exact hK M4 s4 h4
          refine rdEa hs hH2.fr i rfl ex fun ad had => ?_
          rw [Int.toNat_natCast] at had
          refine ⟨⟨by omega, by omega, by omega⟩, ⟨?_, ?_⟩⟩
          · refine newE0 hH2 fun M3 s3 l3 _ h3 => ?_
            rw [shS_sv]
            refine ⟨had M3 (Mem.le_trans hH2.fr l3), ?_, ?_⟩
            · refine head M3 s3 _ h3 fun M4 s4 h4 => ?_
              rw [shS_sv]
              refine ⟨had M4 h4.fr, ?_⟩
              refine newE h4 x.1 x.2 fun M5 s5 l5 h5 => ?_
              rw [shS_sv]
              exact mid M5 s4 s5 h5.rot
            · refine newE h3 x.1 x.2 fun M4 s4 l4 h4 => ?_
              rw [shS_sv]
              have h4' : Holds w0 M M4 (star (Es s3 []) (star (Es out z) (star (Es s4 [(x.1, x.2)]) emp))) := by
                obtain ⟨r, ⟨r1, r2, rfl, q1, r3, r4, rfl, q2, r5, r6, rfl, q3, q4⟩, q5⟩ := h4
                refine ⟨r3 ++ (r5 ++ (r1 ++ r6)), ⟨r3, _, rfl, q2, r5, _, rfl, q3, r1, r6, rfl, q1, q4⟩, q5.perm ?_⟩
                rw [← List.append_assoc r3, ← List.append_assoc r3, ← List.append_assoc (r3 ++ r5), ← List.append_assoc r1]
                exact List.perm_append_comm.append_right r6
              refine head M4 s3 _ h4' fun M5 s5 h5 => ?_
              rw [shS_sv]
              refine mid (X := emp) M5 s5 s4 ?_
              obtain ⟨r, ⟨r1, r2, rfl, q1, r3, r4, rfl, q2, r5, r6, rfl, q3, q4⟩, q5⟩ := h5
              refine ⟨r1 ++ (r5 ++ (r3 ++ r6)), ⟨r1, _, rfl, q1, r5, _, rfl, q3, r3, r6, rfl, q2, q4⟩, q5.perm (List.Perm.append_left r1 ?_)⟩
              rw [← List.append_assoc, ← List.append_assoc]
              exact List.perm_append_comm.append_right r6
          · refine newE hH2 x.1 x.2 fun M3 s3 l3 h3 => ?_
            rw [shS_sv]
            refine newE0 h3 fun M4 s4 l4 _ h4 => ?_
            rw [shS_sv]
            have h4' : Holds w0 M M4 (star (Es s4 []) (star (Es out z) (star (Es s3 [(x.1, x.2)]) emp))) := by
              obtain ⟨r, ⟨r1, r2, rfl, q1, r3, r4, rfl, q2, r5, r6, rfl, q3, q4⟩, q5⟩ := h4
              refine ⟨r1 ++ (r5 ++ (r3 ++ r6)), ⟨r1, _, rfl, q1, r5, _, rfl, q3, r3, r6, rfl, q2, q4⟩, q5.perm (List.Perm.append_left r1 ?_)⟩
              rw [← List.append_assoc, ← List.append_assoc]
              exact List.perm_append_comm.append_right r6
            refine head M4 s4 _ h4' fun M5 s5 h5 => ?_
            rw [shS_sv]
            refine mid (X := emp) M5 s5 s3 ?_
            obtain ⟨r, ⟨r1, r2, rfl, q1, r3, r4, rfl, q2, r5, r6, rfl, q3, q4⟩, q5⟩ := h5
            refine ⟨r1 ++ (r5 ++ (r3 ++ r6)), ⟨r1, _, rfl, q1, r5, _, rfl, q3, r3, r6, rfl, q2, q4⟩, q5.perm (List.Perm.append_left r1 ?_)⟩
            rw [← List.append_assoc, ← List.append_assoc]
            exact List.perm_append_comm.append_right r6
        have inner : ∀ (k' kk : Nat) (M2 : Mem), kk < k' → kk ≤ z.length → Holds w0 M M2 (star (Es out z) emp) → (∀ (j : Nat) y, kk ≤ j → z[j]? = some y → Lt x y) → r1_Sort.L3 pts k k' s out (i : Int) (kk : Int) M2 := by
          intro k'
          induction k' with
          | zero => intro kk M2 h1; omega
          | succ k' ih2 =>
            intro kk M2 h1 hkk hH2 hj1
            rw [H.L3]
            unfold r1_Sort.L3.T
            rw [bs_decide]
            split
            · have hlt2 : kk - 1 < z.length := by omega
              have ey := List.getElem?_eq_getElem hlt2
              generalize z[kk - 1] = y at ey
              refine rdE hs hH2.fr i rfl ex ?_
              refine rdE hH2.rdE (Mem.le_refl _) (kk - 1) (i64_pred (by omega) (by omega)) ey ?_
              refine rBefore_ok (a := x) (b := y) fun M3 l3 => ?_
              rw [shB_v, bs_decide]
              split
              · rename_i hb2
                rw [i64_pred (by omega) (by omega)]
                refine ih2 (kk - 1) M3 (by omega) (by omega) (hH2.le l3) fun j w hj hw => ?_
                by_cases hjk : j = kk - 1
                · subst hjk; rw [ey] at hw; cases hw; exact hb2
                · exact hj1 j w (by omega) hw
              · rename_i hb2
                exact fin kk M3 hkk (hH2.le l3) hj1 fun w _ hw => by rw [ey] at hw; cases hw; exact hb2
            · exact fin kk M2 hkk hH2 hj1 fun w h0 => by omega
        have hn := hH.lenE
        refine ⟨z.length + 1, ?_⟩
        rw [hn]
        exact inner (z.length + 1) z.length M' (by omega) (Nat.le_refl _) hH fun j y hj hy => by
          rw [List.getElem?_eq_none hj] at hy; cases hy
      · have hil : i = l.length := by omega
        rw [hil, List.take_length] at hp
        obtain ⟨g1, g2⟩ := hQ.unself hH
        exact h M' out z g1 g2 hz hp
  exact ⟨l.length + 1, outer (l.length + 1) 0 ⟨none, 0, 0⟩ [] M (by omega) (by omega) (Holds.nilSlk hQ.self) List.Pairwise.nil (by simp)⟩
end
end Go.Proofs.Ytedofpnjmnkedaa.HL
namespace Go.Proofs.Ytedofpnjmnkedaa.HL
structure Rep where
  why : Int := 0
  at_ : Int := 0
  gen : Int := 0
  time : Int := 0
  data : Int := 0
  n : Int := 0
deriving DecidableEq
structure Cmd where
  kind : Int
  queue : Int
  at_ : Int
  gen : Int
  time : Int
  data : Int
structure Evt where
  c : Cmd
  r : Rep
  now : Int
  steps : Int
structure JobA where
  at_ : Int
  gen : Int
  queue : Int
  data : Int
  key : Int
  inn : Bool
structure St where
  now : Int
  l : List JobA
def findA (l : List JobA) (a g : Int) : Option Nat := l.findIdx? fun j => decide (j.at_ = a ∧ j.gen = g)
def inE (p : JobA → Bool) : Nat → List JobA → List Ent
  | _, [] => []
  | n, j :: l => if j.inn && p j then (j.key, (n : Int)) :: inE p (n + 1) l else inE p (n + 1) l
def sortE (m : List Ent) : List Ent := insAll [] m
def ofQ (q : Int) (j : JobA) : Bool := decide (j.queue = q)
def qE (q : Int) (l : List JobA) : List Ent := sortE (inE (ofQ q) 0 l)
def allE (l : List JobA) : List Ent := sortE (inE (fun _ => true) 0 l)
def stepA (jobs : Int) (st : St) (c : Cmd) (was : Rep) : Option (St × Rep) :=
  if (c.kind = 1 ∨ c.kind = 5 ∨ c.kind = 6 ∨ c.kind = 7) ∧ (c.queue < 0 ∨ 2 ≤ c.queue) then some (st, { why := 1 })
  else if c.kind = 1 then
    if jobs ≤ ((allE st.l).length : Int) then some (st, { why := 13 })
    else if was.gen < 1 ∨ (findA st.l was.at_ was.gen).isSome = true then none
    else some (⟨st.now, st.l ++ [⟨was.at_, was.gen, c.queue, c.data, c.time, true⟩]⟩, { at_ := was.at_, gen := was.gen, time := c.time, data := c.data })
  else if c.kind = 2 ∨ c.kind = 3 then
    match findA st.l c.at_ c.gen with
    | none => some (st, { why := 22 })
    | some i => match st.l[i]? with
      | none => none
      | some j =>
        if j.inn = false then some (st, { why := 23 })
        else if c.kind = 3 then some (⟨st.now, st.l.set i { j with inn := false }⟩, { time := j.key, data := j.data })
        else if j.key < c.time then some (st, { why := 26 })
        else some (⟨st.now, st.l.set i { j with key := c.time }⟩, { time := c.time, data := j.data })
  else if c.kind = 4 then
    if c.time < 0 then some (st, { why := 1 }) else some (⟨addc st.now c.time, st.l⟩, { time := addc st.now c.time })
  else if c.kind = 5 then
    match (qE c.queue st.l).head? with
    | none => some (st, { why := 28 })
    | some e => if st.now < e.1 then some (st, { why := 28 }) else
      match st.l[e.2.toNat]? with
      | none => none
      | some j => some (⟨st.now, st.l.set e.2.toNat { j with inn := false }⟩, { at_ := j.at_, gen := j.gen, time := e.1, data := j.data })
  else if c.kind = 6 then
    if c.queue = 0 then some (st, { why := 25 })
    else some (⟨st.now, st.l.map fun j => { j with queue := 0 }⟩, { n := ((qE 1 st.l).length : Int) })
  else if c.kind = 7 then some (st, { n := ((qE c.queue st.l).length : Int) })
  else some (st, { why := 12 })
def whyA (jobs budget : Int) (st : St) (e : Evt) : Int × St :=
  match stepA jobs st e.c e.r with
  | none => (2, st)
  | some (st', r) => if r ≠ e.r then (2, st) else if e.now ≠ st'.now then (3, st) else if e.steps < 0 ∨ budget < e.steps then (4, st) else (0, st')
def ckA (jobs budget : Int) : Int → St → List Evt → Int × Int × St
  | _, st, [] => (-1, 0, st)
  | i, st, e :: es => match whyA jobs budget st e with
    | (0, st') => ckA jobs budget (i + 1) st' es
    | (w, _) => (i, w, st)
theorem sortE_perm (m : List Ent) : (sortE m).Perm m := insAll_perm m []
theorem sortE_srt (m : List Ent) : Srt (sortE m) := insAll_srt m Srt.nil
theorem sortE_eq {m l : List Ent} (h : Srt l) (hp : l.Perm m) : sortE m = l := Srt.eq (sortE_srt m) h ((sortE_perm m).trans hp.symm)
theorem sortE_app (m : List Ent) (e : Ent) : sortE (m ++ [e]) = ins (sortE m) e := by
  unfold sortE insAll
  rw [List.foldl_append]; rfl
theorem inE_app (p : JobA → Bool) : ∀ (l m : List JobA) (n : Nat), inE p n (l ++ m) = inE p n l ++ inE p (n + l.length) m
  | [], m, n => rfl
  | j :: l, m, n => by
    simp only [List.cons_append, inE, inE_app p l m (n + 1), List.length_cons]
    rw [show n + 1 + l.length = n + (l.length + 1) from by omega]
    split <;> rfl
theorem inE_mem {p : JobA → Bool} : ∀ {l : List JobA} {n : Nat} {e : Ent}, e ∈ inE p n l ↔ ∃ (i : Nat) (j : JobA), l[i]? = some j ∧ j.inn = true ∧ p j = true ∧ e = (j.key, ((n + i : Nat) : Int))
  | [], n, e => by simp [inE]
  | j :: l, n, e => by
    rw [inE]
    constructor
    · intro h
      split at h
      · rename_i hc
        simp only [Bool.and_eq_true] at hc
        rcases List.mem_cons.1 h with rfl | h
        · exact ⟨0, j, rfl, hc.1, hc.2, rfl⟩
        · obtain ⟨i, k, h1, h2, h3, h4⟩ := inE_mem.1 h
          exact ⟨i + 1, k, h1, h2, h3, by rw [h4, show n + 1 + i = n + (i + 1) from by omega]⟩
      · obtain ⟨i, k, h1, h2, h3, h4⟩ := inE_mem.1 h
        exact ⟨i + 1, k, h1, h2, h3, by rw [h4, show n + 1 + i = n + (i + 1) from by omega]⟩
    · rintro ⟨i, k, h1, h2, h3, h4⟩
      cases i with
      | zero =>
        simp at h1; subst h1
        rw [if_pos (by simp [h2, h3])]
        rw [h4]; exact List.mem_cons_self
      | succ i =>
        have := (inE_mem (p := p) (l := l) (n := n + 1) (e := e)).2 ⟨i, k, by simpa using h1, h2, h3, by rw [h4, show n + 1 + i = n + (i + 1) from by omega]⟩
        split
        · exact List.mem_cons_of_mem _ this
        · exact this
theorem inE_nodup (p : JobA → Bool) : ∀ (l : List JobA) (n : Nat), ((inE p n l).map (·.2)).Nodup
  | [], n => List.nodup_nil
  | j :: l, n => by
    rw [inE]
    split
    · rw [List.map_cons]
      refine List.nodup_cons.2 ⟨fun h => ?_, inE_nodup p l (n + 1)⟩
      obtain ⟨e, he, h2⟩ := List.mem_map.1 h
      obtain ⟨i, k, _, _, _, h4⟩ := inE_mem.1 he
      rw [h4] at h2
      simp only at h2; omega
    · exact inE_nodup p l (n + 1)
theorem inE_len (p : JobA → Bool) : ∀ (l : List JobA) (n : Nat), (inE p n l).length ≤ l.length
  | [], n => Nat.le_refl _
  | j :: l, n => by
    have := inE_len p l (n + 1)
    rw [inE]
    split
    · simp only [List.length_cons]; omega
    · simp only [List.length_cons]; omega
theorem inE_mid (p : JobA → Bool) (A B : List JobA) (j : JobA) (n : Nat) : inE p n (A ++ j :: B) = inE p n A ++ ((if j.inn && p j then [(j.key, ((n + A.length : Nat) : Int))] else []) ++ inE p (n + A.length + 1) B) := by
  rw [inE_app, inE]
  split <;> rfl
theorem split_at {l : List JobA} {i : Nat} {j : JobA} (h : l[i]? = some j) : ∃ A B, l = A ++ j :: B ∧ A.length = i ∧ ∀ j', l.set i j' = A ++ j' :: B := by
  obtain ⟨hi, rfl⟩ := List.getElem?_eq_some_iff.1 h
  have hl : (l.take i).length = i := by rw [List.length_take]; omega
  refine ⟨l.take i, l.drop (i + 1), ?_, hl, fun j' => ?_⟩
  · rw [← List.drop_eq_getElem_cons hi, List.take_append_drop]
  · rw [List.set_eq_take_append_cons_drop, if_pos hi]
theorem inE_out {l : List JobA} {i : Nat} {j : JobA} (h : l[i]? = some j) (hin : j.inn = true) (p : JobA → Bool) (hp : p j = true) :
    (inE p 0 l).Perm ((j.key, (i : Int)) :: inE p 0 (l.set i { j with inn := false })) := by
  obtain ⟨A, B, rfl, hl, hs⟩ := split_at h
  rw [hs, inE_mid, inE_mid, hin, hp]
  simp only [Bool.and_self, if_true, Bool.false_and, Bool.false_eq_true, if_false, List.nil_append, Nat.zero_add, hl]
  exact List.perm_middle
theorem inE_key {l : List JobA} {i : Nat} {j : JobA} (h : l[i]? = some j) (hin : j.inn = true) (p : JobA → Bool) (hp : p j = true) {k : Int} (hp2 : p { j with key := k } = true) :
    (inE p 0 (l.set i { j with key := k })).Perm ((k, (i : Int)) :: inE p 0 (l.set i { j with inn := false })) := by
  obtain ⟨A, B, rfl, hl, hs⟩ := split_at h
  rw [hs, hs, inE_mid, inE_mid, show (({ j with key := k } : JobA).inn && p { j with key := k }) = true from by rw [hp2]; simp [hin]]
  simp only [Bool.and_self, if_true, Bool.false_and, Bool.false_eq_true, if_false, List.nil_append, Nat.zero_add, hl]
  exact List.perm_middle
theorem inE_other {l : List JobA} {i : Nat} {j j' : JobA} (h : l[i]? = some j) (p : JobA → Bool) (hp : (j.inn && p j) = false) (hp2 : (j'.inn && p j') = false) : inE p 0 (l.set i j') = inE p 0 l := by
  obtain ⟨A, B, rfl, hl, hs⟩ := split_at h
  rw [hs, inE_mid, inE_mid, hp, hp2]
  simp only [Bool.false_eq_true, if_false]
def QInv (l : List JobA) : Prop := ∀ j ∈ l, j.queue = 0 ∨ j.queue = 1
theorem inE_both : ∀ {l : List JobA} (n : Nat), QInv l → (inE (fun _ => true) n l).Perm (inE (ofQ 0) n l ++ inE (ofQ 1) n l)
  | [], n, _ => List.Perm.refl _
  | j :: l, n, h => by
    have ih := inE_both (n + 1) (fun x hx => h x (List.mem_cons_of_mem _ hx))
    have hj := h j List.mem_cons_self
    simp only [inE, ofQ]
    cases hin : j.inn with
    | false => simpa using ih
    | true =>
      rcases hj with hq | hq
      · simp only [hq, Bool.and_self, decide_true, if_true, List.cons_append]
        simpa using List.Perm.cons (j.key, (n : Int)) ih
      · simp only [hq, Bool.and_self, decide_true, if_true]
        simp only [show decide ((1 : Int) = 0) = false from by decide, Bool.and_false, Bool.false_eq_true, if_false]
        exact (List.Perm.cons (j.key, (n : Int)) ih).trans List.perm_middle.symm
theorem inE_map0 : ∀ (l : List JobA) (n : Nat), inE (ofQ 0) n (l.map fun j => { j with queue := 0 }) = inE (fun _ => true) n l
  | [], n => rfl
  | j :: l, n => by
    simp only [List.map_cons, inE, inE_map0 l (n + 1), ofQ]
    simp
theorem inE_map1 : ∀ (l : List JobA) (n : Nat), inE (ofQ 1) n (l.map fun j => { j with queue := 0 }) = []
  | [], n => rfl
  | j :: l, n => by
    simp only [List.map_cons, inE, inE_map1 l (n + 1), ofQ]
    simp
theorem sortE_len (m : List Ent) : (sortE m).length = m.length := (sortE_perm m).length_eq
theorem fnd_sort {m m' : List Ent} {e : Ent} (hm : m.Perm (e :: m')) (hn : (m.map (·.2)).Nodup) : ∃ k, fnd (sortE m) e.2 = some k ∧ (sortE m)[k]? = some e ∧ ((sortE m).eraseIdx k).Perm m' := by
  have hp : (sortE m).Perm (e :: m') := (sortE_perm m).trans hm
  have he : e ∈ sortE m := hp.mem_iff.2 List.mem_cons_self
  cases hf : fnd (sortE m) e.2 with
  | none => exact absurd rfl (fnd_none hf e he)
  | some k =>
    obtain ⟨x, hx, hx2, _⟩ := fnd_some hf
    have hnd : ((e :: m').map (·.2)).Nodup := ((hm.map _).nodup_iff).1 hn
    have hxe : x = e := by
      rcases List.mem_cons.1 (hp.mem_iff.1 (List.mem_of_getElem? hx)) with h | h
      · exact h
      · rw [List.map_cons] at hnd
        exact absurd (List.mem_map.2 ⟨x, h, hx2⟩) (List.nodup_cons.1 hnd).1
    subst hxe
    refine ⟨k, rfl, hx, ?_⟩
    obtain ⟨hk, hke⟩ := List.getElem?_eq_some_iff.1 hx
    have h3 : (sortE m).Perm (x :: (sortE m).eraseIdx k) := by
      have e1 : sortE m = (sortE m).take k ++ x :: (sortE m).drop (k + 1) := by
        rw [← hke, ← List.drop_eq_getElem_cons hk, List.take_append_drop]
      have e2 : (sortE m).eraseIdx k = (sortE m).take k ++ (sortE m).drop (k + 1) := List.eraseIdx_eq_take_drop_succ _ _
      rw [e2]
      conv => lhs; rw [e1]
      exact List.perm_middle
    exact (h3.symm.trans hp).cons_inv
theorem rmv_sort {m m' : List Ent} {e : Ent} (hm : m.Perm (e :: m')) (hn : (m.map (·.2)).Nodup) : rmv (sortE m) e.2 = sortE m' ∧ getE (sortE m) e.2 = e ∧ (fnd (sortE m) e.2).isSome = true := by
  obtain ⟨k, h1, h2, h3⟩ := fnd_sort hm hn
  refine ⟨?_, ?_, by rw [h1]; rfl⟩
  · unfold rmv
    rw [h1]
    exact (sortE_eq ((sortE_srt m).sub (List.eraseIdx_sublist _ _)) h3).symm
  · unfold getE
    rw [h1]
    simp [List.getD_eq_getElem?_getD, h2]
theorem low_sort {m m' mm : List Ent} {e : Ent} {k : Int} (hm : m.Perm (e :: m')) (hn : (m.map (·.2)).Nodup) (hk : k ≤ e.1) (hmm : mm.Perm ((k, e.2) :: m')) : lowE (sortE m) e.2 k = sortE mm ∧ lowB (sortE m) e.2 k = true := by
  obtain ⟨h1, h2, h3⟩ := rmv_sort hm hn
  refine ⟨?_, ?_⟩
  · unfold lowE
    rw [if_pos ⟨h3, by rw [h2]; exact hk⟩, h1]
    exact (sortE_eq (ins_srt (sortE_srt m')) ((ins_perm _ _).trans (((sortE_perm m').cons _).trans hmm.symm))).symm
  · unfold lowB
    rw [h3, h2, decide_eq_true hk]; rfl
theorem low_not {m m' : List Ent} {e : Ent} {k : Int} (hm : m.Perm (e :: m')) (hn : (m.map (·.2)).Nodup) (hk : e.1 < k) : lowE (sortE m) e.2 k = sortE m ∧ lowB (sortE m) e.2 k = false := by
  obtain ⟨h1, h2, h3⟩ := rmv_sort hm hn
  refine ⟨?_, ?_⟩
  · unfold lowE
    rw [if_neg (fun h => by rw [h2] at h; omega)]
  · unfold lowB
    rw [h3, h2, decide_eq_false (by omega)]; rfl
theorem join_sort {a b c : List Ent} (h : c.Perm (a ++ b)) : insAll (sortE a) (sortE b) = sortE c :=
  (sortE_eq (insAll_srt _ (sortE_srt a)) ((insAll_perm _ _).trans (((sortE_perm a).append (sortE_perm b)).trans h.symm))).symm
end Go.Proofs.Ytedofpnjmnkedaa.HL
namespace Go.Proofs.Ytedofpnjmnkedaa.HL
open Go.RowKit (Below)
open Go.Proofs
def SetA (T : TypeId) (s : Nat) (l : List Ent) : Asn := fun r => ∃ sv, star (row1 s [SV.v sv] T) (Es sv l) r
section
variable {w0 : World} {F M : Mem} {R : VP}
theorem SetH.toA {T : TypeId} {s : Nat} {l : List Ent} {Q : Asn} (h : SetH w0 F M T s l Q) : Holds w0 F M (star (SetA T s l) Q) := by
  obtain ⟨sv, r, ⟨r1, r2, rfl, q1, r3, r4, rfl, q2, q3⟩, q4⟩ := h
  exact ⟨_, ⟨r1 ++ r3, r4, by simp, ⟨sv, r1, r3, rfl, q1, q2⟩, q3⟩, q4⟩
theorem SetH.ofA {T : TypeId} {s : Nat} {l : List Ent} {Q : Asn} (h : Holds w0 F M (star (SetA T s l) Q)) : SetH w0 F M T s l Q := by
  obtain ⟨r, ⟨r1, r2, rfl, ⟨sv, r3, r4, rfl, q1, q2⟩, q3⟩, q4⟩ := h
  exact ⟨sv, _, ⟨r3, r4 ++ r2, by simp, q1, r4, r2, rfl, q2, q3⟩, q4⟩
theorem Holds.mdr3 {A B D E : Asn} (h : Holds w0 F M (star A (star B (star D E)))) : Holds w0 F M (star D (star A (star B E))) := by
  obtain ⟨F', h1, _, h3⟩ := h.last
  exact (h3 _ _ h1.rot).rot
theorem Holds.emp0 : Holds w0 M M emp := ⟨[], rfl, Fit.nil (Mem.le_refl _)⟩
theorem join_in {T : TypeId} {s t : Nat} {l m : List Ent} {Q : Asn} (h : Holds w0 F M (star (SetA T t m) (star (SetA T s l) Q))) : ∃ sv tv, Holds w0 F M (star (row1 t [SV.v tv] T) (star (Es tv m) (star (row1 s [SV.v sv] T) (star (Es sv l) Q)))) := by
  obtain ⟨r, ⟨r1, r2, rfl, ⟨tv, r3, r4, rfl, q1, q2⟩, r5, r6, rfl, ⟨sv, r7, r8, rfl, q3, q4⟩, q5⟩, q6⟩ := h
  exact ⟨sv, tv, _, ⟨r3, r4 ++ (r7 ++ (r8 ++ r6)), by simp, q1, r4, _, rfl, q2, r7, _, rfl, q3, r8, _, rfl, q4, q5⟩, q6⟩
theorem join_out {T : TypeId} {s t : Nat} {l m : List Ent} {sv tv : SV} {Q : Asn} (h : Holds w0 F M (star (row1 t [SV.v tv] T) (star (Es tv m) (star (row1 s [SV.v sv] T) (star (Es sv l) Q))))) : Holds w0 F M (star (SetA T t m) (star (SetA T s l) Q)) := by
  obtain ⟨r, ⟨r3, r4, rfl, q1, r5, r6, rfl, q2, r7, r8, rfl, q3, r9, r10, rfl, q4, q5⟩, q6⟩ := h
  exact ⟨_, ⟨r3 ++ r5, (r7 ++ r9) ++ r10, by simp, ⟨tv, r3, r5, rfl, q1, q2⟩, r7 ++ r9, r10, rfl, ⟨sv, r7, r9, rfl, q3, q4⟩, q5⟩, q6⟩
def Disj (l m : List Ent) : Prop := ∀ e ∈ m, fnd l e.2 = none
theorem disj_not {l m : List Ent} (h : Disj l m) : ¬ ∃ e ∈ m, (fnd l e.2).isSome = true := fun ⟨e, he, h2⟩ => by
  rw [h e he] at h2; cases h2
theorem mJoinA_ok {s t : Nat} {l m : List Ent} {Q : Asn} (h : Holds w0 F M (star (SetA tS t m) (star (SetA tS s l) Q))) (hb : l.length + m.length ≤ 10000)
    (h0 : ¬ Disj l m → ∀ M', Holds w0 F M' (star (SetA tS t m) (star (SetA tS s l) Q)) → R (.bool false) M')
    (h1 : Disj l m → ∀ M', Holds w0 F M' (star (SetA tS t []) (star (SetA tS s (insAll l m)) Q)) → R (.bool true) M') :
    C PP w0 Id.mS_Join #[.pointer (some ⟨s, 0, none⟩), .pointer (some ⟨t, 0, none⟩)] R M := by
  obtain ⟨sv, tv, h2⟩ := join_in h
  exact mJoin_ok h2 hb (fun hd M' sv' tv' h3 => h0 (fun hn => disj_not hn hd) M' (join_out h3)) fun hd M' sv' tv' h3 => h1 hd M' (join_out h3)
end
end Go.Proofs.Ytedofpnjmnkedaa.HL
namespace Go.Proofs.Ytedofpnjmnkedaa.HL
open Go.RowKit (Below)
open Go.Proofs
section
variable {P : Program} {w0 : World} {M F : Mem} {α : Type}
theorem pure_peek {β : Type} {s : Sem β} {a : β} (h : pure? P s = some a) : peek P w0 M s = some a := by
  induction s with
  | pure x => exact h
  | program k ih => exact ih P h
  | _ => simp [pure?] at h
def entsF (kf vf : α → Value) : Nat → List α → List MapEntry
  | _, [] => []
  | n, x :: l => ⟨kf x, vf x, n⟩ :: entsF kf vf (n + 1) l
def mapObj (kf vf : α → Value) (l : List α) : Obj := .map (entsF kf vf 0 l).toArray l.length
theorem entsF_app (kf vf : α → Value) (x : α) : ∀ (l : List α) (n : Nat), entsF kf vf n (l ++ [x]) = entsF kf vf n l ++ [⟨kf x, vf x, n + l.length⟩]
  | [], n => rfl
  | y :: l, n => by
    simp only [List.cons_append, entsF, entsF_app kf vf x l (n + 1), List.length_cons]
    rw [show n + 1 + l.length = n + (l.length + 1) from by omega]
theorem entsF_len (kf vf : α → Value) : ∀ (l : List α) (n : Nat), (entsF kf vf n l).length = l.length
  | [], _ => rfl
  | y :: l, n => by simp only [entsF, List.length_cons, entsF_len kf vf l (n + 1)]
theorem entsF_born (kf vf : α → Value) : ∀ (l : List α) (n : Nat) (e : MapEntry), e ∈ entsF kf vf n l → e.born < n + l.length
  | [], _, _, h => by cases h
  | y :: l, n, e, h => by
    rcases List.mem_cons.1 h with rfl | h
    · show n < n + (l.length + 1); omega
    · have := entsF_born kf vf l (n + 1) e h
      rw [List.length_cons]; omega
theorem mapObj_app (kf vf : α → Value) (l : List α) (x : α) : mapObj kf vf (l ++ [x]) = .map ((entsF kf vf 0 l).toArray.push ⟨kf x, vf x, l.length⟩) (l.length + 1) := by
  unfold mapObj
  rw [entsF_app, List.push_toArray, List.length_append, List.length_singleton, Nat.zero_add]
theorem ask_ok {kf vf : α → Value} {t : TypeId} {k : Value} {eqb : α → Bool} : ∀ {l : List α} (n i : Nat), (∀ x ∈ l, pure? P (Op.equal t k (kf x)) = some (eqb x)) →
    ∃ r, peek P w0 M (Instr.findAsking t k (entsF kf vf n l) i) = some r ∧ r.map (·.2) = (l.find? eqb).map vf := by
  intro l
  induction l with
  | nil => intro n i _; exact ⟨none, rfl, rfl⟩
  | cons x l ih =>
    intro n i h
    simp only [entsF, Instr.findAsking]
    rw [peek_peek (pure_peek (h x List.mem_cons_self)), List.find?_cons]
    cases he : eqb x with
    | true => exact ⟨some (i, vf x), rfl, rfl⟩
    | false =>
      obtain ⟨r, h1, h2⟩ := ih (n + 1) (i + 1) fun y hy => h y (List.mem_cons_of_mem _ hy)
      exact ⟨r, h1, h2⟩
theorem key_struct {kf vf : α → Value} {t : TypeId} {fs : Array Field} {k : Value} {eqb : α → Bool} {l : List α} (ht : P.underlying t = some (.struct fs)) (h : ∀ x ∈ l, pure? P (Op.equal t k (kf x)) = some (eqb x)) :
    ∃ r, peek P w0 M (Instr.findKey t k (entsF kf vf 0 l)) = some r ∧ r.map (·.2) = (l.find? eqb).map vf := by
  unfold Instr.findKey
  rw [peek_peek (peek_under ht)]
  cases l with
  | nil => exact ⟨none, rfl, rfl⟩
  | cons x l => exact ask_ok 0 0 h
theorem now_ok {kf : α → Int} {vf : α → Value} {k : Int} : ∀ (l : List α) (n i : Nat), ∃ r, Instr.findNow (.int .i64) (.int .i64 k) (entsF (fun x => .int .i64 (kf x)) vf n l) i = some r ∧ r.map (·.2) = (l.find? fun x => k == kf x).map vf := by
  intro l
  induction l with
  | nil => intro n i; exact ⟨none, rfl, rfl⟩
  | cons x l ih =>
    intro n i
    rw [List.find?_cons]
    simp only [entsF, Instr.findNow, Instr.sameNow, if_true]
    cases he : (k == kf x) with
    | true => exact ⟨some (i, vf x), rfl, rfl⟩
    | false =>
      obtain ⟨r, h1, h2⟩ := ih (n + 1) (i + 1)
      exact ⟨r, h1, h2⟩
theorem key_int {kf : α → Int} {vf : α → Value} {t : TypeId} {k : Int} {l : List α} (ht : P.underlying t = some (.int .i64)) :
    ∃ r, peek P w0 M (Instr.findKey t (.int .i64 k) (entsF (fun x => .int .i64 (kf x)) vf 0 l)) = some r ∧ r.map (·.2) = (l.find? fun x => k == kf x).map vf := by
  obtain ⟨r, h1, h2⟩ := now_ok (vf := vf) (k := k) l 0 0
  unfold Instr.findKey
  rw [peek_peek (peek_under ht), h1]
  exact ⟨r, rfl, h2⟩
theorem peek_obj {r : Nat} {o : Obj} (hr : w0.heap.size ≤ r) (hm : M r = some (.obj o)) (hp : Obj.plain o = true) : peek P w0 M (getObj r) = some o := by
  have : obj? w0 M r = some o := by
    unfold obj?
    rw [if_neg (by omega), hm]
    simp only [hp, if_true]
  unfold getObj
  simp only [peek, this]
theorem mkm_ok {t : TypeId} {kf vf : α → Value} {K : VP} (h : ∀ r, M r = none → w0.heap.size ≤ r → K (.map (some r)) (M.set r (.obj (mapObj kf vf [])))) : (std P w0).mkm t none K M := by
  show act P w0 (Instr.makeMap t none) K M
  exact ⟨rfl, fun b hb hw => h b hb hw⟩
theorem lk_ok {tm key elem : TypeId} {kf vf : α → Value} {l : List α} {r : Nat} {k z : Value} {i : TypeInfo} {o : Option α} (ht : P.underlying tm = some (.map key elem)) (hi : P.info? elem = some i) (hz : i.zero = some z) (hr : w0.heap.size ≤ r) (hm : M r = some (.obj (mapObj kf vf l)))
    (hck : ∀ b, pure? P (Instr.checkKey b 10000 key k) = some ()) (hf : ∃ q, peek P w0 M (Instr.findKey key k (entsF kf vf 0 l)) = some q ∧ q.map (·.2) = o.map vf) :
    (std P w0).lk tm (.map (some r)) k false M = some ((o.map vf).getD z) := by
  obtain ⟨q, h1, h2⟩ := hf
  show peek P w0 M (Instr.lookup tm (.map (some r)) k false) = _
  unfold Instr.lookup
  rw [peek_peek (peek_under ht)]
  simp only
  rw [peek_peek (peek_obj hr hm rfl)]
  simp only [mapObj]
  rw [peek_peek (s := pure _) (a := (entsF kf vf 0 l).toArray) rfl, peek_peek (pure_peek (hck _)), peek_peek (by simpa using h1)]
  cases q with
  | none =>
    simp only
    rw [peek_peek (peek_zero hi hz), peek_peek (s := pure _) (a := (z, false)) rfl, ← h2]; rfl
  | some p =>
    simp only
    rw [peek_peek (s := pure _) (a := (p.2, true)) rfl, ← h2]; rfl
theorem men_ok {tm key elem : TypeId} {kf vf : α → Value} {l : List α} {r : Nat} {k z : Value} {i : TypeInfo} (ht : P.underlying tm = some (.map key elem)) (hi : P.info? elem = some i) (hz : i.zero = some z) (hr : w0.heap.size ≤ r) (hm : M r = some (.obj (mapObj kf vf l)))
    (hck : ∀ b, pure? P (Instr.checkKey b 10000 key k) = some ()) (hf : ∃ q, peek P w0 M (Instr.findKey key k (entsF kf vf 0 l)) = some q ∧ q.map (·.2) = (none : Option α).map vf) {K : Value → Int → Mem → Prop}
    (hK : K z (l.length : Int) (M.set r (.obj (.map ((entsF kf vf 0 l).toArray.push ⟨k, z, l.length⟩) (l.length + 1))))) :
    (std P w0).men tm (.map (some r)) k K M := by
  obtain ⟨q, h1, h2⟩ := hf
  cases q with
  | some p => simp at h2
  | none =>
    show act P w0 (Instr.mapEntry tm (.map (some r)) k) _ M
    unfold Instr.mapEntry
    rw [peek_act (peek_under ht)]
    simp only
    rw [peek_act (peek_obj hr hm rfl)]
    simp only [mapObj]
    rw [peek_act (pure_peek (hck _)), peek_act (by simpa using h1)]
    simp only
    rw [peek_act (peek_zero hi hz)]
    show (match M r with
      | some (.obj o') => Obj.plain o' = true ∧ _
      | _ => False)
    rw [hm]
    exact ⟨rfl, z, (l.length : Int), rfl, hK⟩
theorem mes_ok {tm : TypeId} {kf vf : α → Value} {l : List α} {r : Nat} {k z v : Value} (hr : w0.heap.size ≤ r) (hm : M r = some (.obj (.map ((entsF kf vf 0 l).toArray.push ⟨k, z, l.length⟩) (l.length + 1)))) {K : Mem → Prop}
    (hK : K (M.set r (.obj (.map ((entsF kf vf 0 l).toArray.push ⟨k, v, l.length⟩) (l.length + 1))))) :
    (std P w0).mes tm (.map (some r)) (.int .i64 (l.length : Int)) v K M := by
  show act P w0 (Instr.entryStore tm (.map (some r)) (.int .i64 (l.length : Int)) v) _ M
  unfold Instr.entryStore
  simp only
  rw [peek_act (peek_obj hr hm rfl)]
  simp only
  rw [peek_act (a := (l.length : Int)) rfl]
  have hfi : ((entsF kf vf 0 l).toArray.push ⟨k, z, l.length⟩).findIdx? (fun e => ((e.born : Int) == (l.length : Int))) = some l.length := by
    rw [List.push_toArray, List.findIdx?_toArray]
    refine List.findIdx?_eq_some_iff_getElem.2 ⟨by rw [List.length_append, entsF_len]; simp, ?_, fun j hj => ?_⟩
    · rw [List.getElem_append_right (by rw [entsF_len]; omega)]; simp
    · rw [List.getElem_append_left (by rw [entsF_len]; exact hj)]
      have := entsF_born kf vf l 0 _ (List.getElem_mem (by rw [entsF_len]; exact hj))
      simp only [beq_iff_eq]; omega
  rw [hfi]
  simp only
  have hmod : ((entsF kf vf 0 l).toArray.push ⟨k, z, l.length⟩).modify l.length (fun e => { e with val := v }) = (entsF kf vf 0 l).toArray.push ⟨k, v, l.length⟩ := by
    rw [List.push_toArray, List.push_toArray, List.modify_toArray]
    congr 1
    have key : ∀ (L : List MapEntry) (x : MapEntry) (f : MapEntry → MapEntry), (L ++ [x]).modify L.length f = L ++ [f x] := by
      intro L x f
      induction L with
      | nil => rfl
      | cons y L ih => simp [List.modify_succ_cons, ih]
    have := key (entsF kf vf 0 l) ⟨k, z, l.length⟩ (fun e => { e with val := v })
    rw [entsF_len] at this; exact this
  rw [hmod]
  show (match M r with
    | some (.obj o') => Obj.plain o' = true ∧ _
    | _ => False)
  rw [hm]
  exact ⟨rfl, hK⟩
theorem Holds.obj_in {A : Asn} {r : Nat} {o : Obj} (h : Holds w0 F M A) (hm : M r = some (.obj o)) (hf : F r = none) : Holds w0 (F.set r (.obj o)) M A ∧ Mem.le F (F.set r (.obj o)) := by
  obtain ⟨q, h1, h2⟩ := h
  refine ⟨⟨q, h1, h2.nd, fun x hx => ?_, fun y o' hy => ?_⟩, Mem.le_set _ hf⟩
  · obtain ⟨g1, g2, g3⟩ := h2.at_ x hx
    have hne : x.1 ≠ r := fun e => by rw [e, hm] at g3; cases g3
    exact ⟨g1, by rw [Mem.set_ne _ _ hne]; exact g2, g3⟩
  · by_cases hy' : y = r
    · subst hy'
      rw [Mem.set_same] at hy; cases hy; exact hm
    · rw [Mem.set_ne _ _ hy'] at hy
      exact h2.fr y o' hy
theorem Holds.obj_set {A : Asn} {r : Nat} {o o' : Obj} (h : Holds w0 F M A) (hm : M r = some (.obj o)) (hf : F r = none) : Holds w0 F (M.set r (.obj o')) A := by
  obtain ⟨q, h1, h2⟩ := h
  refine ⟨q, h1, h2.nd, fun x hx => ?_, fun y o2 hy => ?_⟩
  · obtain ⟨g1, g2, g3⟩ := h2.at_ x hx
    have hne : x.1 ≠ r := fun e => by rw [e, hm] at g3; cases g3
    exact ⟨g1, g2, by rw [Mem.set_ne _ _ hne]; exact g3⟩
  · have hne : y ≠ r := fun e => by rw [e, hf] at hy; cases hy
    rw [Mem.set_ne _ _ hne]
    exact h2.fr y o2 hy
theorem Holds.obj_new {A : Asn} {r : Nat} {o : Obj} (h : Holds w0 F M A) (hm : M r = none) : Holds w0 F (M.set r (.obj o)) A := h.le (Mem.le_set _ hm)
end
end Go.Proofs.Ytedofpnjmnkedaa.HL
namespace Go.Proofs.Ytedofpnjmnkedaa.HL
open Go.RowKit (Below)
open Go.Proofs
abbrev tP : TypeId := 87
abbrev tC : TypeId := 107
abbrev tJ : TypeId := 128
def refV (a g : Int) : Value := .agg #[.int .i64 a, .int .i64 g]
structure JM where
  j : JobA
  b : Nat
  q : Int
  ser : Int
def kf1 (x : JM) : Value := refV x.j.at_ x.j.gen
def vf1 (x : JM) : Value := .pointer (some ⟨x.b, 0, none⟩)
def kf2 (x : JM) : Value := .int .i64 x.ser
def vf2 (x : JM) : Value := refV x.j.at_ x.j.gen
def JM.cells (x : JM) : List Value := [.int .i64 x.q, .int .i64 x.ser, .int .i64 x.j.data, .bool (!x.j.inn)]
def rowsA (L : List JM) : Asn := fun r => r = L.map fun x => (x.b, x.cells, tJ)
structure JOk (L : List JM) : Prop where
  ser : ∀ (i : Nat) x, L[i]? = some x → x.ser = (i : Int)
  q : ∀ x ∈ L, x.j.inn = true → x.q = x.j.queue
  qj : ∀ x ∈ L, x.j.queue = 0 ∨ x.j.queue = 1
  nod : (L.map fun x => (x.j.at_, x.j.gen)).Nodup
def jobsOf (L : List JM) : List JobA := L.map JM.j
theorem mapObj_congr {α : Type} {kf vf : α → Value} {l m : List α} (h1 : l.map kf = m.map kf) (h2 : l.map vf = m.map vf) : mapObj kf vf l = mapObj kf vf m := by
  have key : ∀ (l m : List α) (n : Nat), l.map kf = m.map kf → l.map vf = m.map vf → entsF kf vf n l = entsF kf vf n m := by
    intro l
    induction l with
    | nil =>
      intro m n h1 _
      cases m with
      | nil => rfl
      | cons y m => simp at h1
    | cons x l ih =>
      intro m n h1 h2
      cases m with
      | nil => simp at h1
      | cons y m =>
        simp only [List.map_cons, List.cons.injEq] at h1 h2
        rw [entsF, entsF, h1.1, h2.1, ih m (n + 1) h1.2 h2.2]
  unfold mapObj
  have := congrArg List.length h1
  rw [List.length_map, List.length_map] at this
  rw [key l m 0 h1 h2, this]
theorem find_idx {α : Type} (p : α → Bool) : ∀ (l : List α), l.find? p = (l.findIdx? p).bind fun i => l[i]?
  | [] => rfl
  | x :: l => by
    rw [List.find?_cons, List.findIdx?_cons]
    cases h : p x with
    | true => rfl
    | false =>
      simp only [find_idx p l]
      cases l.findIdx? p <;> rfl
section
variable {w0 : World} {F M : Mem} {R : VP}
def prow (most bud : Int) (cb s0 s1 rj rr n : Nat) : List Value := [.int .i64 most, .int .i64 bud, .pointer (some ⟨cb, 0, none⟩), .pointer (some ⟨s0, 0, none⟩), .pointer (some ⟨s1, 0, none⟩), .map (some rj), .map (some rr), .int .i64 (n : Int)]
structure PlainM (w0 : World) (F M : Mem) (p cb s0 s1 rj rr : Nat) (most bud now : Int) (L : List JM) (q0 q1 : List Ent) (Q : Asn) : Prop where
  fj : F rj = none
  fr : F rr = none
  ne : rj ≠ rr
  wj : w0.heap.size ≤ rj
  wr : w0.heap.size ≤ rr
  mj : M rj = some (.obj (mapObj kf1 vf1 L))
  mr : M rr = some (.obj (mapObj kf2 vf2 L))
  h : Holds w0 F M (star (row1 p (prow most bud cb s0 s1 rj rr L.length) tP) (star (row1 cb [.int .i64 now] tC) (star (SetA tS s0 q0) (star (SetA tS s1 q1) (star (rowsA L) Q)))))
  ok : JOk L
theorem PlainM.le {M' : Mem} {p cb s0 s1 rj rr : Nat} {most bud now : Int} {L : List JM} {q0 q1 : List Ent} {Q : Asn} (h : PlainM w0 F M p cb s0 s1 rj rr most bud now L q0 q1 Q) (hl : Mem.le M M') : PlainM w0 F M' p cb s0 s1 rj rr most bud now L q0 q1 Q :=
  ⟨h.fj, h.fr, h.ne, h.wj, h.wr, hl _ _ h.mj, hl _ _ h.mr, h.h.le hl, h.ok⟩
theorem PlainM.enter {p cb s0 s1 rj rr : Nat} {most bud now : Int} {L : List JM} {q0 q1 : List Ent} {Q : Asn} (h : PlainM w0 F M p cb s0 s1 rj rr most bud now L q0 q1 Q) :
    ∃ F2, Mem.le F F2 ∧ F2 rj = some (.obj (mapObj kf1 vf1 L)) ∧ F2 rr = some (.obj (mapObj kf2 vf2 L)) ∧
      Holds w0 F2 M (star (row1 p (prow most bud cb s0 s1 rj rr L.length) tP) (star (row1 cb [.int .i64 now] tC) (star (SetA tS s0 q0) (star (SetA tS s1 q1) (star (rowsA L) Q))))) := by
  obtain ⟨h1, l1⟩ := h.h.obj_in h.mj h.fj
  obtain ⟨h2, l2⟩ := h1.obj_in h.mr (by rw [Mem.set_ne _ _ (Ne.symm h.ne)]; exact h.fr)
  exact ⟨_, Mem.le_trans l1 l2, by rw [Mem.set_ne _ _ h.ne, Mem.set_same], Mem.set_same _ _ _, h2⟩
theorem PlainM.back {F2 M' : Mem} {p cb s0 s1 rj rr : Nat} {most bud now most' bud' now' : Int} {L L' : List JM} {q0 q1 q0' q1' : List Ent} {Q Q' : Asn} (h : PlainM w0 F M p cb s0 s1 rj rr most bud now L q0 q1 Q) (hl : Mem.le F F2) (g1 : F2 rj = some (.obj (mapObj kf1 vf1 L))) (g2 : F2 rr = some (.obj (mapObj kf2 vf2 L)))
    (h2 : Holds w0 F2 M' (star (row1 p (prow most' bud' cb s0 s1 rj rr L'.length) tP) (star (row1 cb [.int .i64 now'] tC) (star (SetA tS s0 q0') (star (SetA tS s1 q1') (star (rowsA L') Q'))))))
    (e1 : L'.map kf1 = L.map kf1) (e2 : L'.map vf1 = L.map vf1) (e3 : L'.map kf2 = L.map kf2) (ok : JOk L') : PlainM w0 F M' p cb s0 s1 rj rr most' bud' now' L' q0' q1' Q' :=
  ⟨h.fj, h.fr, h.ne, h.wj, h.wr, by rw [mapObj_congr e1 e2]; exact h2.fr _ _ g1, by rw [mapObj_congr (kf := kf2) (vf := vf2) e3 e1]; exact h2.fr _ _ g2, h2.unfrm hl, ok⟩
theorem ref_eq (a g b k : Int) : pure? PP (Op.equal 25 (refV a g) (refV b k)) = some (a == b && g == k) := by
  have := equal_struct (P := PP) (d := 9999) (es := [a == b, g == k]) (xs := #[.int .i64 a, .int .i64 g]) (ys := #[.int .i64 b, .int .i64 k]) Try.underlying25 (by kernel_rfl)
    ⟨by decide, ⟨.int .i64 a, .int .i64 b, by kernel_rfl, by kernel_rfl, equal_int Try.underlying3 a b⟩, by decide, ⟨.int .i64 g, .int .i64 k, by kernel_rfl, by kernel_rfl, equal_int Try.underlying3 g k⟩, trivial⟩
  have e : ([a == b, g == k] : List Bool).all id = (a == b && g == k) := by simp [List.all]
  rw [← e]; exact this
theorem ref_key (a g : Int) (b : Bool) : pure? PP (Instr.checkKey b 10000 25 (refV a g)) = some () := by kernel_rfl
theorem ser_key (n : Int) (b : Bool) : pure? PP (Instr.checkKey b 10000 2 (.int .i64 n)) = some () := by kernel_rfl
end
end Go.Proofs.Ytedofpnjmnkedaa.HL
namespace Go.Proofs.Ytedofpnjmnkedaa.HL
open Go.RowKit (Below)
open Go.Proofs
theorem cM1 : cell1 PP 84 = true := by kernel_rfl
theorem cM2 : cell1 PP 85 = true := by kernel_rfl
abbrev tRep : TypeId := 32
abbrev tCmd : TypeId := 27
def Rep.v (r : Rep) : Value := .agg #[.int .i64 r.why, .int .i64 r.at_, .int .i64 r.gen, .int .i64 r.time, .int .i64 r.data, .int .i64 r.n]
def Rep.cells (r : Rep) : List Value := [.int .i64 r.why, .int .i64 r.at_, .int .i64 r.gen, .int .i64 r.time, .int .i64 r.data, .int .i64 r.n]
def Cmd.v (c : Cmd) : Value := .agg #[.int .i64 c.kind, .int .i64 c.queue, .int .i64 c.at_, .int .i64 c.gen, .int .i64 c.time, .int .i64 c.data]
def Cmd.cells (c : Cmd) : List Value := [.int .i64 c.kind, .int .i64 c.queue, .int .i64 c.at_, .int .i64 c.gen, .int .i64 c.time, .int .i64 c.data]
theorem findA_L (L : List JM) (a g : Int) : L.find? (fun x => a == x.j.at_ && g == x.j.gen) = (findA (jobsOf L) a g).bind fun i => L[i]? := by
  rw [find_idx]
  have : L.findIdx? (fun x => a == x.j.at_ && g == x.j.gen) = findA (jobsOf L) a g := by
    unfold findA jobsOf
    rw [List.findIdx?_map]
    congr 1
    funext x
    simp only [Function.comp]
    rw [Bool.eq_iff_iff]
    simp only [Bool.and_eq_true, beq_iff_eq, decide_eq_true_eq]
    constructor
    · rintro ⟨h1, h2⟩; exact ⟨h1.symm, h2.symm⟩
    · rintro ⟨h1, h2⟩; exact ⟨h1.symm, h2.symm⟩
  rw [this]
section
variable {w0 : World} {F M : Mem} {R : VP}
theorem Holds.ju4 {A B C D Q : Asn} (h : Holds w0 F M (star A (star B (star C (star D Q))))) : Holds w0 F M (star D (star A (star B (star C Q)))) := by
  obtain ⟨F', h1, _, h3⟩ := h.last
  exact (h3 _ _ h1.mdr3).rot
theorem Holds.ju5 {A B C D E Q : Asn} (h : Holds w0 F M (star A (star B (star C (star D (star E Q)))))) : Holds w0 F M (star E (star A (star B (star C (star D Q))))) := by
  obtain ⟨F', h1, _, h3⟩ := h.last
  exact (h3 _ _ h1.ju4).rot
theorem Holds.ju4i {A B C D Q : Asn} (h : Holds w0 F M (star D (star A (star B (star C Q))))) : Holds w0 F M (star A (star B (star C (star D Q)))) := h.ju4.ju4.ju4
theorem Holds.ju3i {A B D Q : Asn} (h : Holds w0 F M (star D (star A (star B Q)))) : Holds w0 F M (star A (star B (star D Q))) := h.mdr3.mdr3
theorem Holds.ju5i {A B C D E Q : Asn} (h : Holds w0 F M (star E (star A (star B (star C (star D Q)))))) : Holds w0 F M (star A (star B (star C (star D (star E Q))))) := h.ju5.ju5.ju5.ju5
theorem Holds.jobOwn {L : List JM} {Q : Asn} (h : Holds w0 F M (star (rowsA L) Q)) {x : JM} (hx : x ∈ L) : Own w0 M x.b x.cells tJ := by
  obtain ⟨r, ⟨r1, r2, rfl, h1, h2⟩, h3⟩ := h
  have e : r1 = _ := h1
  subst e
  exact h3.own (List.mem_append_left _ (List.mem_map.2 ⟨x, hx, rfl⟩))
theorem job_st {t : TypeId} (ht : cell1 PP t = true) {L : List JM} {Q : Asn} {i o : Nat} {v : Value} {x x' : JM} (h : Holds w0 F M (star (rowsA L) Q)) (hx : L[i]? = some x) (hb : x'.b = x.b) (ho : o < 4) (hv : onecell v = true) (hc : v.cells = #[v]) (he : x.cells.set o v = x'.cells) {K : Mem → Prop}
    (hK : ∀ M', Holds w0 F M' (star (rowsA (L.set i x')) Q) → K M') : (std PP w0).st t ⟨x.b, o, none⟩ v (fun M' => K M') M := by
  refine st_one ht (h.jobOwn (List.mem_of_getElem? hx)) ho hv hc ?_
  rw [he]
  refine hK _ ?_
  obtain ⟨hi, rfl⟩ := List.getElem?_eq_some_iff.1 hx
  obtain ⟨r, ⟨r1, r2, rfl, h1, h2⟩, h3⟩ := h
  have e : r1 = L.map fun x => (x.b, x.cells, tJ) := h1
  subst e
  have e1 : L.set i x' = L.take i ++ x' :: L.drop (i + 1) := by rw [List.set_eq_take_append_cons_drop, if_pos hi]
  have e2 : L = L.take i ++ L[i] :: L.drop (i + 1) := by rw [← List.drop_eq_getElem_cons hi, List.take_append_drop]
  refine ⟨(L.set i x').map (fun x => (x.b, x.cells, tJ)) ++ r2, ⟨_, r2, rfl, rfl, h2⟩, ?_⟩
  rw [e1]
  have h3' := h3
  have e3 : (L.map fun x => (x.b, x.cells, tJ)) = (L.take i).map (fun x => (x.b, x.cells, tJ)) ++ (L[i].b, L[i].cells, tJ) :: (L.drop (i + 1)).map (fun x => (x.b, x.cells, tJ)) := by
    conv => lhs; rw [e2]
    rw [List.map_append, List.map_cons]
  rw [e3, List.append_assoc, List.cons_append] at h3'
  have h4 := (h3'.perm List.perm_middle).upd (cs' := x'.cells) (e' := tJ)
  rw [List.map_append, List.map_cons, List.append_assoc, List.cons_append, hb]
  exact h4.perm List.perm_middle.symm
theorem jobs_lk {M' : Mem} {rj : Nat} {L : List JM} (hw : w0.heap.size ≤ rj) (hm : M' rj = some (.obj (mapObj kf1 vf1 L))) (a g : Int) :
    (std PP w0).lk 84 (.map (some rj)) (.agg #[.int .i64 a, .int .i64 g]) false M' = some ((((findA (jobsOf L) a g).bind fun i => L[i]?).map vf1).getD (.pointer none)) := by
  obtain ⟨i, hi, hz, _⟩ := W.e126
  rw [← findA_L]
  exact lk_ok (kf := kf1) (vf := vf1) (l := L) Try.underlying84 hi hz hw hm (fun b => ref_key a g b) (key_struct Try.underlying25 fun x _ => ref_eq a g x.j.at_ x.j.gen)
theorem refs_lk {M' : Mem} {rr : Nat} {L : List JM} (hw : w0.heap.size ≤ rr) (hm : M' rr = some (.obj (mapObj kf2 vf2 L))) (hs : ∀ (i : Nat) x, L[i]? = some x → x.ser = (i : Int)) {i : Nat} {x : JM} (hx : L[i]? = some x) :
    (std PP w0).lk 85 (.map (some rr)) (.int .i64 (i : Int)) false M' = some (.agg #[.int .i64 x.j.at_, .int .i64 x.j.gen]) := by
  obtain ⟨inf, hi, hz, _⟩ := W.e25
  have hf : L.find? (fun y => ((i : Int) == y.ser)) = some x := by
    rw [find_idx]
    have : L.findIdx? (fun y => ((i : Int) == y.ser)) = some i := by
      obtain ⟨hl, rfl⟩ := List.getElem?_eq_some_iff.1 hx
      refine List.findIdx?_eq_some_iff_getElem.2 ⟨hl, ?_, fun j hj => ?_⟩
      · rw [hs i _ (List.getElem?_eq_getElem hl)]; simp
      · have hjl : j < L.length := by omega
        rw [hs j _ (List.getElem?_eq_getElem hjl)]
        simp only [beq_iff_eq]; omega
    rw [this]; exact hx
  have := lk_ok (kf := kf2) (vf := vf2) (l := L) (o := L.find? fun y => ((i : Int) == y.ser)) (k := .int .i64 (i : Int)) Try.underlying85 hi hz hw hm (fun b => ser_key _ b) (key_int (kf := JM.ser) (vf := vf2) Try.underlying2)
  rw [hf] at this
  exact this
theorem Jfind_ok {p cb s0 s1 rj rr : Nat} {most bud now : Int} {L : List JM} {q0 q1 : List Ent} {Q : Asn} (h : PlainM w0 F M p cb s0 s1 rj rr most bud now L q0 q1 Q) {a g : Int}
    (h0 : findA (jobsOf L) a g = none → ∀ M', Mem.le M M' → R (.tuple #[.pointer none, .int .i64 22]) M')
    (h1 : ∀ i x, findA (jobsOf L) a g = some i → L[i]? = some x → x.j.inn = false → ∀ M', Mem.le M M' → R (.tuple #[.pointer none, .int .i64 23]) M')
    (h2 : ∀ i x, findA (jobsOf L) a g = some i → L[i]? = some x → x.j.inn = true → ∀ M', Mem.le M M' → R (.tuple #[.pointer (some ⟨x.b, 0, none⟩), .int .i64 0]) M') :
    C PP w0 Id.jP_find #[.pointer (some ⟨p, 0, none⟩), .agg #[.int .i64 a, .int .i64 g]] R M := by
  apply jP_find.go
  unfold jP_find.T
  intro b hb0 hbw
  have l1 : Mem.le M (M.set b (.row [.int .i64 a, .int .i64 g] 25)) := Mem.le_set _ hb0
  have o1 : Own w0 (M.set b (.row [.int .i64 a, .int .i64 g] 25)) b [.int .i64 a, .int .i64 g] 25 := Own.new hbw
  generalize M.set b _ = M1 at l1 o1 ⊢
  have h' := h.le l1
  have e5 : rd w0 M1 ⟨p, 5, none⟩ = some (.map (some rj)) := rd_own (o := 5) h'.h.own1
  have hld : (std PP w0).ld 25 ⟨b, 0, none⟩ M1 = some (.agg #[.int .i64 a, .int .i64 g]) := ld_agg (cs := [.int .i64 a, .int .i64 g]) W.g25 (fun j v hj => by rw [add_eq, rd_own o1, Nat.zero_add]; exact hj)
  rw [hld]
  simp only [nc_v, ld_one cM1, add_eq, Nat.zero_add, e5, ob_v, shA_v, shCons_v, shI_v, shNil_v]
  rw [jobs_lk h'.wj h'.mj]
  cases hf : findA (jobsOf L) a g with
  | none =>
    simp only [Option.bind_none, Option.map_none, Option.getD_none, go_sem, Option.isNone_none, bs_true]
    exact h0 hf M1 l1
  | some i =>
    have hi : i < L.length := by
      have := (List.findIdx?_eq_some_iff_getElem.1 hf).1
      simpa [jobsOf] using this
    have hx := List.getElem?_eq_getElem hi
    generalize L[i] = x at hx
    simp only [Option.bind_some, hx, Option.map_some, Option.getD_some, vf1, go_sem, Option.isNone_some, bs_false]
    have ox := (h'.h.ju5).jobOwn (List.mem_of_getElem? hx)
    have e3 : rd w0 M1 ⟨x.b, 3, none⟩ = some (.bool (!x.j.inn)) := rd_own (o := 3) ox
    simp only [ld_one W.c4, add_eq, Nat.zero_add, e3, go_sem, bs_not]
    cases hin : x.j.inn with
    | false => rw [bs_false]; exact h1 i x hf hx hin M1 l1
    | true => rw [bs_true]; exact h2 i x hf hx hin M1 l1
end
end Go.Proofs.Ytedofpnjmnkedaa.HL
namespace Go.Proofs.Ytedofpnjmnkedaa.HL
open Go.RowKit (Below)
open Go.Proofs
section
variable {w0 : World} {F M : Mem} {R : VP}
theorem Holds.ju6 {A B C D E G Q : Asn} (h : Holds w0 F M (star A (star B (star C (star D (star E (star G Q))))))) : Holds w0 F M (star G (star A (star B (star C (star D (star E Q)))))) := by
  obtain ⟨F', h1, _, h3⟩ := h.last
  exact (h3 _ _ h1.ju5).rot
theorem Holds.ju6i {A B C D E G Q : Asn} (h : Holds w0 F M (star G (star A (star B (star C (star D (star E Q))))))) : Holds w0 F M (star A (star B (star C (star D (star E (star G Q)))))) := h.ju6.ju6.ju6.ju6.ju6
section
variable {p cb s0 s1 rj rr : Nat} {most bud now : Int} {L : List JM} {q0 q1 : List Ent} {Q : Asn}
theorem PlainM.new (h : PlainM w0 F M p cb s0 s1 rj rr most bud now L q0 q1 Q) {b : Nat} (hb : M b = none) (hw : w0.heap.size ≤ b) (cs : List Value) (e : TypeId) : PlainM w0 F (M.set b (.row cs e)) p cb s0 s1 rj rr most bud now L q0 q1 (star (row1 b cs e) Q) := by
  have hl : Mem.le M (M.set b (.row cs e)) := Mem.le_set _ hb
  exact ⟨h.fj, h.fr, h.ne, h.wj, h.wr, hl _ _ h.mj, hl _ _ h.mr, (h.h.new hb hw cs e).ju6i, h.ok⟩
theorem PlainM.own {b : Nat} {cs : List Value} {e : TypeId} (h : PlainM w0 F M p cb s0 s1 rj rr most bud now L q0 q1 (star (row1 b cs e) Q)) : Own w0 M b cs e := h.h.ju6.own1
theorem PlainM.upd {b : Nat} {cs cs' : List Value} {e e' : TypeId} (h : PlainM w0 F M p cb s0 s1 rj rr most bud now L q0 q1 (star (row1 b cs e) Q)) : PlainM w0 F (M.set b (.row cs' e')) p cb s0 s1 rj rr most bud now L q0 q1 (star (row1 b cs' e') Q) := by
  have ho := h.own.2
  have n1 : rj ≠ b := fun x => by rw [← x, h.mj] at ho; cases ho
  have n2 : rr ≠ b := fun x => by rw [← x, h.mr] at ho; cases ho
  exact ⟨h.fj, h.fr, h.ne, h.wj, h.wr, by rw [Mem.set_ne _ _ n1]; exact h.mj, by rw [Mem.set_ne _ _ n2]; exact h.mr, (h.h.ju6.upd1).ju6i, h.ok⟩
theorem PlainM.drop {A : Asn} (h : PlainM w0 F M p cb s0 s1 rj rr most bud now L q0 q1 (star A Q)) : PlainM w0 F M p cb s0 s1 rj rr most bud now L q0 q1 Q :=
  ⟨h.fj, h.fr, h.ne, h.wj, h.wr, h.mj, h.mr, h.h.ju6.right, h.ok⟩
theorem PlainM.swap {A B : Asn} (h : PlainM w0 F M p cb s0 s1 rj rr most bud now L q0 q1 (star A (star B Q))) : PlainM w0 F M p cb s0 s1 rj rr most bud now L q0 q1 (star B (star A Q)) := by
  refine ⟨h.fj, h.fr, h.ne, h.wj, h.wr, h.mj, h.mr, ?_, h.ok⟩
  obtain ⟨F1, g1, _, k1⟩ := h.h.last
  obtain ⟨F2, g2, _, k2⟩ := g1.last
  obtain ⟨F3, g3, _, k3⟩ := g2.last
  obtain ⟨F4, g4, _, k4⟩ := g3.last
  obtain ⟨F5, g5, _, k5⟩ := g4.last
  exact k1 _ _ (k2 _ _ (k3 _ _ (k4 _ _ (k5 _ _ g5.rot))))
theorem resR {b : Nat} {cs : List Value} {a0 a1 a2 a3 a4 a5 : Int} (h : PlainM w0 F M p cb s0 s1 rj rr most bud now L q0 q1 (star (row1 b cs tRep) Q)) (hcs : cs.length = 6) {K : VP} (hK : ∀ M', PlainM w0 F M' p cb s0 s1 rj rr most bud now L q0 q1 Q → K (.agg #[.int .i64 a0, .int .i64 a1, .int .i64 a2, .int .i64 a3, .int .i64 a4, .int .i64 a5]) M') :
    (std PP w0).st tRep ⟨b, 0, none⟩ (.agg #[.int .i64 a0, .int .i64 a1, .int .i64 a2, .int .i64 a3, .int .i64 a4, .int .i64 a5]) (fun M14 => ob ((std PP w0).rdv tRep (.pointer (some ⟨b, 0, none⟩)) M14) fun v15 => K v15 M14) M := by
  refine st_agg (vs := [.int .i64 a0, .int .i64 a1, .int .i64 a2, .int .i64 a3, .int .i64 a4, .int .i64 a5]) W.g32 h.own (by simp [hcs]) (by intro v hv; simp only [List.mem_cons, List.not_mem_nil, or_false] at hv; rcases hv with rfl | rfl | rfl | rfl | rfl | rfl <;> rfl) ?_
  have hP2 := h.upd (cs' := over cs 0 [.int .i64 a0, .int .i64 a1, .int .i64 a2, .int .i64 a3, .int .i64 a4, .int .i64 a5]) (e' := tRep)
  have o2 := hP2.own
  have ho : over cs 0 [.int .i64 a0, .int .i64 a1, .int .i64 a2, .int .i64 a3, .int .i64 a4, .int .i64 a5] = [.int .i64 a0, .int .i64 a1, .int .i64 a2, .int .i64 a3, .int .i64 a4, .int .i64 a5] := by
    match cs, hcs with
    | [_, _, _, _, _, _], _ => rfl
  rw [ho] at o2
  rw [rdv_ptr, ld_agg (cs := [.int .i64 a0, .int .i64 a1, .int .i64 a2, .int .i64 a3, .int .i64 a4, .int .i64 a5]) W.g32 (fun j v hj => by rw [ho, add_eq, rd_own o2, Nat.zero_add]; exact hj), ob_v]
  exact hK _ hP2.drop
def sqOf (q : Int) (s0 s1 : Nat) : Nat := if q = 0 then s0 else s1
theorem PlainM.cell (h : PlainM w0 F M p cb s0 s1 rj rr most bud now L q0 q1 Q) {q : Int} (hq : q = 0 ∨ q = 1) : rd w0 M ⟨p, 3 + q.toNat, none⟩ = some (.pointer (some ⟨sqOf q s0 s1, 0, none⟩)) := by
  rcases hq with rfl | rfl
  · exact rd_own (o := 3) h.h.own1
  · exact rd_own (o := 4) h.h.own1
theorem PlainM.setq (h : PlainM w0 F M p cb s0 s1 rj rr most bud now L q0 q1 Q) {q : Int} (hq : q = 0 ∨ q = 1) : ∃ F1 : Mem, SetH w0 F1 M tS (sqOf q s0 s1) (if q = 0 then q0 else q1) emp ∧
    ∀ M' l', SetH w0 F1 M' tS (sqOf q s0 s1) l' emp → PlainM w0 F M' p cb s0 s1 rj rr most bud now L (if q = 0 then l' else q0) (if q = 0 then q1 else l') Q := by
  obtain ⟨F2, l2, g1, g2, hH⟩ := h.enter
  have toE : ∀ {F1 M1 : Mem} {A : Asn}, Holds w0 F1 M1 A → Holds w0 F1 M1 (star A emp) := fun ⟨r, a1, a2⟩ => ⟨r, ⟨r, [], by simp, a1, rfl⟩, a2⟩
  have ofE : ∀ {F1 M1 : Mem} {A : Asn}, Holds w0 F1 M1 (star A emp) → Holds w0 F1 M1 A := fun h => h.left
  rcases hq with rfl | rfl
  · obtain ⟨F1, a1, a2, a3⟩ := hH.mdr3.aside
    refine ⟨F1, SetH.ofA (toE a1), fun M' l' hs => ?_⟩
    exact h.back l2 g1 g2 (a3 M' _ (ofE hs.toA)).ju3i rfl rfl rfl h.ok
  · obtain ⟨F1, a1, a2, a3⟩ := hH.ju4.aside
    refine ⟨F1, SetH.ofA (toE a1), fun M' l' hs => ?_⟩
    exact h.back l2 g1 g2 (a3 M' _ (ofE hs.toA)).ju4i rfl rfl rfl h.ok
theorem PlainM.setqE (h : PlainM w0 F M p cb s0 s1 rj rr most bud now L q0 q1 Q) : ∃ F1 : Mem, SetH w0 F1 M tS s0 q0 (star (SetA tS s1 q1) emp) ∧
    ∀ M' l0 l1, SetH w0 F1 M' tS s0 l0 (star (SetA tS s1 l1) emp) → PlainM w0 F M' p cb s0 s1 rj rr most bud now L l0 l1 Q := by
  obtain ⟨F2, l2, g1, g2, hH⟩ := h.enter
  obtain ⟨F3, b1, b2, b3⟩ := hH.last3
  have b4 : Holds w0 F3 M (star (star (SetA tS s0 q0) (SetA tS s1 q1)) (star (rowsA L) Q)) := by
    obtain ⟨r, ⟨r1, r2, rfl, c1, r3, r4, rfl, c2, c3⟩, c4⟩ := b1
    exact ⟨_, ⟨r1 ++ r3, r4, by simp, ⟨r1, r3, rfl, c1, c2⟩, c3⟩, c4⟩
  obtain ⟨F1, a1, a2, a3⟩ := b4.aside
  refine ⟨F1, ?_, fun M' l0 l1 hs => ?_⟩
  · refine SetH.ofA ?_
    obtain ⟨r, ⟨r1, r2, rfl, c1, c2⟩, c3⟩ := a1
    exact ⟨_, ⟨r1, r2, rfl, c1, r2, [], by simp, c2, rfl⟩, c3⟩
  · have d1 : Holds w0 F1 M' (star (SetA tS s0 l0) (SetA tS s1 l1)) := by
      obtain ⟨r, ⟨r1, r2, rfl, c1, r3, r4, rfl, c2, c3⟩, c4⟩ := hs.toA
      have c3' : r4 = [] := c3
      subst c3'
      exact ⟨r1 ++ r3, ⟨r1, r3, rfl, c1, c2⟩, by simpa using c4⟩
    have d2 := a3 M' _ d1
    refine h.back l2 g1 g2 (b3 M' _ ?_) rfl rfl rfl h.ok
    obtain ⟨r, ⟨r1, r2, rfl, ⟨r3, r4, rfl, c1, c2⟩, c3⟩, c4⟩ := d2
    exact ⟨_, ⟨r3, r4 ++ r2, by simp, c1, r4, r2, rfl, c2, c3⟩, c4⟩
theorem PlainM.job {t : TypeId} (ht : cell1 PP t = true) {i o : Nat} {v : Value} {x x' : JM} (h : PlainM w0 F M p cb s0 s1 rj rr most bud now L q0 q1 Q) (hx : L[i]? = some x) (hb : x'.b = x.b) (hs : x'.ser = x.ser) (ha : x'.j.at_ = x.j.at_) (hg : x'.j.gen = x.j.gen) (ho : o < 4) (hv : onecell v = true) (hc : v.cells = #[v]) (he : x.cells.set o v = x'.cells)
    (ok : JOk (L.set i x')) {K : Mem → Prop} (hK : ∀ M', PlainM w0 F M' p cb s0 s1 rj rr most bud now (L.set i x') q0 q1 Q → K M') : (std PP w0).st t ⟨x.b, o, none⟩ v (fun M' => K M') M := by
  obtain ⟨F2, l2, g1, g2, hH⟩ := h.enter
  refine job_st ht hH.ju5 hx hb ho hv hc he fun M' h' => hK M' ?_
  have hset : ∀ (kf : JM → Value), kf x' = kf x → (L.set i x').map kf = L.map kf := fun kf hk => by
    obtain ⟨hi, rfl⟩ := List.getElem?_eq_some_iff.1 hx
    rw [List.map_set, hk, ← List.getElem_map kf (h := by simpa using hi), List.set_getElem_self]
  refine h.back l2 g1 g2 (L' := L.set i x') ?_ (hset _ (by unfold kf1; rw [ha, hg])) (hset _ (by unfold vf1; rw [hb])) (hset _ (by unfold kf2; rw [hs])) ok
  rw [List.length_set]
  exact h'.ju5i
end
theorem told_ok {x : JM} {t : Int} (ho : Own w0 M x.b x.cells tJ) (h : ∀ M', Mem.le M M' → R (.agg #[.int .i64 0, .int .i64 0, .int .i64 0, .int .i64 t, .int .i64 x.j.data, .int .i64 0]) M') :
    C PP w0 Id.judge_told #[.int .i64 t, .pointer (some ⟨x.b, 0, none⟩)] R M := by
  apply judge_told.go
  unfold judge_told.T
  intro b hb0 hbw
  have h1 := Holds.new (Holds.emp0 (w0 := w0) (M := M)) hb0 hbw [.int .i64 0, .int .i64 0, .int .i64 0, .int .i64 0, .int .i64 0, .int .i64 0] tRep
  have e2 : rd w0 (M.set b (.row [.int .i64 0, .int .i64 0, .int .i64 0, .int .i64 0, .int .i64 0, .int .i64 0] tRep)) ⟨x.b, 2, none⟩ = some (.int .i64 x.j.data) := rd_own (o := 2) (ho.le h1.fr)
  generalize M.set b _ = M1 at h1 e2 ⊢
  simp only [ld_one W.c3, add_eq, Nat.zero_add, e2, go_sem]
  refine st_agg (vs := [.int .i64 0, .int .i64 0, .int .i64 0, .int .i64 t, .int .i64 x.j.data, .int .i64 0]) W.g32 h1.own1 (by simp) (by intro v hv; simp only [List.mem_cons, List.not_mem_nil, or_false] at hv; rcases hv with rfl | rfl | rfl | rfl | rfl | rfl <;> rfl) ?_
  have h2 := h1.upd1 (cs' := over [.int .i64 0, .int .i64 0, .int .i64 0, .int .i64 0, .int .i64 0, .int .i64 0] 0 [.int .i64 0, .int .i64 0, .int .i64 0, .int .i64 t, .int .i64 x.j.data, .int .i64 0]) (e' := tRep)
  have o2 : Own w0 _ b [.int .i64 0, .int .i64 0, .int .i64 0, .int .i64 t, .int .i64 x.j.data, .int .i64 0] tRep := h2.own1
  have hle := h2.fr
  rw [rdv_ptr, ld_agg (cs := [.int .i64 0, .int .i64 0, .int .i64 0, .int .i64 t, .int .i64 x.j.data, .int .i64 0]) W.g32 (fun j v hj => by rw [add_eq, rd_own o2, Nat.zero_add]; exact hj), ob_v]
  exact h _ hle
theorem cNew_ok {Q : Asn} (h : Holds w0 F M Q) (hR : ∀ M' b, Holds w0 F M' (star (row1 b [.int .i64 0] tC) Q) → R (.pointer (some ⟨b, 0, none⟩)) M') : C PP w0 Id.clock_New #[] R M := by
  apply clock_New.go
  unfold clock_New.T
  have hb : (std PP w0).bld tC [] = some (.agg #[.int .i64 0]) := by kernel_rfl
  simp only [hb, go_sem]
  intro b hb0 hbw
  exact hR _ b (h.new hb0 hbw _ _)
theorem cNow_ok {b : Nat} {now : Int} (h : rd w0 M ⟨b, 0, none⟩ = some (.int .i64 now)) (hR : R (.int .i64 now) M) : C PP w0 Id.clock_Clock_Now #[.pointer (some ⟨b, 0, none⟩)] R M := by
  apply clock_Clock_Now.go
  unfold clock_Clock_Now.T
  simp only [ld_one W.c2, h, go_sem]
  exact hR
theorem cDue_ok {b : Nat} {now x : Int} (h : rd w0 M ⟨b, 0, none⟩ = some (.int .i64 now)) (hR : R (.bool (decide (x ≤ now))) M) : C PP w0 Id.clock_Clock_Due #[.pointer (some ⟨b, 0, none⟩), .int .i64 x] R M := by
  apply clock_Clock_Due.go
  unfold clock_Clock_Due.T
  simp only [ld_one W.c2, h, go_sem]
  exact hR
theorem cGo_ok {b : Nat} {now x : Int} {Q : Asn} (h : Holds w0 F M (star (row1 b [.int .i64 now] tC) Q)) (hn : In64 now) (hx : In64 x) (h0 : x < 0 → R (.int .i64 1) M) (h1 : 0 ≤ x → ∀ M', Holds w0 F M' (star (row1 b [.int .i64 (addc now x)] tC) Q) → R (.int .i64 0) M') :
    C PP w0 Id.clock_Clock_Go #[.pointer (some ⟨b, 0, none⟩), .int .i64 x] R M := by
  apply clock_Clock_Go.go
  unfold clock_Clock_Go.T
  rw [bs_decide]
  split
  · rename_i hc; exact h0 hc
  · rename_i hc
    have e : rd w0 M ⟨b, 0, none⟩ = some (.int .i64 now) := rd_own (o := 0) h.own1
    simp only [ld_one W.c2, e, go_sem]
    refine order_Add_ok hn hx ?_
    simp only [go_sem]
    refine st_one W.c2 h.own1 (by simp) rfl rfl ?_
    exact h1 (by omega) _ (h.upd1 (cs' := [.int .i64 (addc now x)]) (e' := tC))
theorem fresh_ok {Q : Asn} {jobs bud : Int} (h : Holds w0 F M Q) (hR : ∀ M' p cb s0 s1 rj rr, PlainM w0 F M' p cb s0 s1 rj rr jobs bud 0 [] [] [] Q → R (.pointer (some ⟨p, 0, none⟩)) M') : C PP w0 Id.judge_fresh #[.int .i64 jobs, .int .i64 bud] R M := by
  apply judge_fresh.go
  unfold judge_fresh.T
  refine cNew_ok h fun M1 cb h1 => ?_
  rw [shP_v]
  refine mNew_ok h1 fun M2 s0 h2 _ => ?_
  rw [shP_v]
  refine mNew_ok h2.toA fun M3 s1 h3 _ => ?_
  rw [shP_v]
  have hb1 : (std PP w0).bld 83 [(0, .pointer (some ⟨s0, 0, none⟩)), (1, .pointer (some ⟨s1, 0, none⟩))] = some (.agg #[.pointer (some ⟨s0, 0, none⟩), .pointer (some ⟨s1, 0, none⟩)]) := by kernel_rfl
  rw [hb1]
  simp only [ob_v, shA_v, shCons_v, shP_v, shNil_v]
  refine mkm_ok (kf := kf1) (vf := vf1) fun rj hj0 hjw => ?_
  refine mkm_ok (kf := kf2) (vf := vf2) fun rr hr0 hrw => ?_
  have hne : rj ≠ rr := fun e => by rw [← e, Mem.set_same] at hr0; cases hr0
  have hr0' : M3 rr = none := by rw [Mem.set_ne _ _ (Ne.symm hne)] at hr0; exact hr0
  have h4 : Holds w0 F _ _ := ((h3.toA.obj_new (o := mapObj kf1 vf1 []) hj0).obj_new (o := mapObj kf2 vf2 []) hr0)
  have mj : ((M3.set rj (.obj (mapObj kf1 vf1 []))).set rr (.obj (mapObj kf2 vf2 []))) rj = some (.obj (mapObj kf1 vf1 [])) := by rw [Mem.set_ne _ _ hne, Mem.set_same]
  have mr : ((M3.set rj (.obj (mapObj kf1 vf1 []))).set rr (.obj (mapObj kf2 vf2 []))) rr = some (.obj (mapObj kf2 vf2 [])) := Mem.set_same _ _ _
  have fj : F rj = none := le_none h3.fr hj0
  have fr : F rr = none := le_none h3.fr hr0'
  generalize (M3.set rj _).set rr _ = M4 at h4 mj mr ⊢
  have hb2 : (std PP w0).bld tP [(0, .int .i64 jobs), (1, .int .i64 bud), (2, .pointer (some ⟨cb, 0, none⟩)), (3, .agg #[.pointer (some ⟨s0, 0, none⟩), .pointer (some ⟨s1, 0, none⟩)]), (4, .map (some rj)), (5, .map (some rr))] = some (.agg (prow jobs bud cb s0 s1 rj rr 0).toArray) := by kernel_rfl
  rw [hb2]
  simp only [ob_v, shA_v, prow, shCons_v, shP_v, shI_v, shNil_v]
  intro p hp0 hpw
  have h5 := Holds.new h4 hp0 hpw (prow jobs bud cb s0 s1 rj rr 0) tP
  have hl : Mem.le M4 (M4.set p (.row (prow jobs bud cb s0 s1 rj rr 0) tP)) := Mem.le_set _ hp0
  refine hR _ p cb s0 s1 rj rr ⟨fj, fr, hne, hjw, hrw, hl _ _ mj, hl _ _ mr, ?_, ?_⟩
  · -- [p, s1, s0, cb | Q] as it wants to stand
    have h6 : Holds w0 F _ (star (row1 p (prow jobs bud cb s0 s1 rj rr 0) tP) (star (SetA tS s1 []) (star (SetA tS s0 []) (star (row1 cb [.int .i64 0] tC) Q)))) := h5
    obtain ⟨F1, g1, _, k1⟩ := h6.last
    have g2 : Holds w0 F1 _ (star (row1 cb [.int .i64 0] tC) (star (SetA tS s1 []) (star (SetA tS s0 []) Q))) := g1.mdr3
    obtain ⟨F2, g3, _, k2⟩ := g2.last
    have g4 := k1 _ _ (k2 _ _ g3.rot)
    obtain ⟨r, ⟨r1, r2, rfl, a1, r3, r4, rfl, a2, r5, r6, rfl, a3, r7, r8, rfl, a4, a5⟩, a6⟩ := g4
    exact ⟨_, ⟨r1, _, rfl, a1, r3, _, rfl, a2, r5, _, rfl, a3, r7, [] ++ r8, by simp, a4, [], r8, rfl, rfl, a5⟩, a6⟩
  · exact ⟨fun i x h => (by simp at h), fun x h => (by cases h), fun x h => (by cases h), List.nodup_nil⟩
end
end Go.Proofs.Ytedofpnjmnkedaa.HL
namespace Go.Proofs.Ytedofpnjmnkedaa.HL
open Go.RowKit (Below)
open Go.Proofs
theorem JOk.set {L : List JM} (h : JOk L) {i : Nat} {x x' : JM} (hx : L[i]? = some x) (hs : x'.ser = x.ser) (ha : x'.j.at_ = x.j.at_) (hg : x'.j.gen = x.j.gen) (hq : x'.j.inn = true → x'.q = x'.j.queue) (hqj : x'.j.queue = 0 ∨ x'.j.queue = 1) : JOk (L.set i x') := by
  obtain ⟨hi, rfl⟩ := List.getElem?_eq_some_iff.1 hx
  refine ⟨fun k y hk => ?_, fun y hy => ?_, fun y hy => ?_, ?_⟩
  · by_cases hki : k = i
    · subst hki
      rw [List.getElem?_set_self hi] at hk
      cases hk
      rw [hs]; exact h.ser k _ hx
    · rw [List.getElem?_set_ne (Ne.symm hki)] at hk
      exact h.ser k y hk
  · rcases List.mem_or_eq_of_mem_set hy with hy | rfl
    · exact h.q y hy
    · exact hq
  · rcases List.mem_or_eq_of_mem_set hy with hy | rfl
    · exact h.qj y hy
    · exact hqj
  · have : (L.set i x').map (fun x => (x.j.at_, x.j.gen)) = L.map fun x => (x.j.at_, x.j.gen) := by
      rw [List.map_set, ha, hg, ← List.getElem_map (fun x : JM => (x.j.at_, x.j.gen)) (h := by simpa using hi), List.set_getElem_self]
    rw [this]; exact h.nod
theorem jobsOf_set (L : List JM) (i : Nat) (x : JM) : jobsOf (L.set i x) = (jobsOf L).set i x.j := by
  unfold jobsOf
  rw [List.map_set]
theorem jobsOf_get {L : List JM} {i : Nat} {x : JM} (h : L[i]? = some x) : (jobsOf L)[i]? = some x.j := by
  unfold jobsOf
  rw [List.getElem?_map, h]; rfl
theorem qE_nodup (q : Int) (l : List JobA) : ((inE (ofQ q) 0 l).map (·.2)).Nodup := inE_nodup _ _ _
theorem qE_out {l : List JobA} {i : Nat} {j : JobA} (h : l[i]? = some j) (hin : j.inn = true) : rmv (qE j.queue l) (i : Int) = qE j.queue (l.set i { j with inn := false }) ∧ getE (qE j.queue l) (i : Int) = (j.key, (i : Int)) ∧ ∀ q, q ≠ j.queue → qE q (l.set i { j with inn := false }) = qE q l := by
  have h1 := inE_out h hin (ofQ j.queue) (by simp [ofQ])
  obtain ⟨a1, a2, _⟩ := rmv_sort h1 (qE_nodup _ _)
  refine ⟨a1, a2, fun q hq => ?_⟩
  unfold qE
  rw [inE_other h (ofQ q) (by simp [ofQ, Ne.symm hq]) (by simp)]
theorem qE_low {l : List JobA} {i : Nat} {j : JobA} (h : l[i]? = some j) (hin : j.inn = true) {k : Int} (hk : k ≤ j.key) : lowE (qE j.queue l) (i : Int) k = qE j.queue (l.set i { j with key := k }) ∧ lowB (qE j.queue l) (i : Int) k = true ∧ ∀ q, q ≠ j.queue → qE q (l.set i { j with key := k }) = qE q l := by
  have h1 := inE_out h hin (ofQ j.queue) (by simp [ofQ])
  have h2 := inE_key h hin (ofQ j.queue) (by simp [ofQ]) (k := k) (by simp [ofQ])
  obtain ⟨a1, a2⟩ := low_sort h1 (qE_nodup _ _) hk h2
  refine ⟨a1, a2, fun q hq => ?_⟩
  unfold qE
  rw [inE_other h (ofQ q) (by simp [ofQ, Ne.symm hq]) (by simp [ofQ, Ne.symm hq])]
theorem qE_lowN {l : List JobA} {i : Nat} {j : JobA} (h : l[i]? = some j) (hin : j.inn = true) {k : Int} (hk : j.key < k) : lowE (qE j.queue l) (i : Int) k = qE j.queue l ∧ lowB (qE j.queue l) (i : Int) k = false :=
  low_not (inE_out h hin (ofQ j.queue) (by simp [ofQ])) (qE_nodup _ _) hk
theorem qE_len (q : Int) (l : List JobA) : (qE q l).length ≤ l.length := by
  unfold qE
  rw [sortE_len]; exact inE_len _ _ _
section
variable {w0 : World} {F M : Mem} {R : VP} {p cb s0 s1 rj rr : Nat} {most bud now : Int} {L : List JM} {Q : Asn}
theorem Jcancel_ok (h : PlainM w0 F M p cb s0 s1 rj rr most bud now L (qE 0 (jobsOf L)) (qE 1 (jobsOf L)) Q) (hL : L.length ≤ 1000) {a g : Int}
    (h0 : findA (jobsOf L) a g = none → ∀ M', PlainM w0 F M' p cb s0 s1 rj rr most bud now L (qE 0 (jobsOf L)) (qE 1 (jobsOf L)) Q → R (Rep.v { why := 22 }) M')
    (h1 : ∀ i x, findA (jobsOf L) a g = some i → L[i]? = some x → x.j.inn = false → ∀ M', PlainM w0 F M' p cb s0 s1 rj rr most bud now L (qE 0 (jobsOf L)) (qE 1 (jobsOf L)) Q → R (Rep.v { why := 23 }) M')
    (h2 : ∀ i x, findA (jobsOf L) a g = some i → L[i]? = some x → x.j.inn = true → ∀ M' L', L'.length = L.length → jobsOf L' = (jobsOf L).set i { x.j with inn := false } → PlainM w0 F M' p cb s0 s1 rj rr most bud now L' (qE 0 (jobsOf L')) (qE 1 (jobsOf L')) Q → R (Rep.v { time := x.j.key, data := x.j.data }) M') :
    C PP w0 Id.jP_cancel #[.pointer (some ⟨p, 0, none⟩), .agg #[.int .i64 a, .int .i64 g]] R M := by
  apply jP_cancel.go
  unfold jP_cancel.T
  intro b1 hb0 hbw
  have g1 := h.new hb0 hbw [.int .i64 a, .int .i64 g] 25
  generalize M.set b1 _ = M1 at g1 ⊢
  intro b3 hb3 hbw3
  have g2 := g1.new hb3 hbw3 [.int .i64 0, .int .i64 0, .int .i64 0, .int .i64 0, .int .i64 0, .int .i64 0] tRep
  generalize M1.set b3 _ = M2 at g2 ⊢
  have o1 := g2.swap.own
  rw [ld_agg (cs := [.int .i64 a, .int .i64 g]) W.g25 (fun j v hj => by rw [add_eq, rd_own o1, Nat.zero_add]; exact hj)]
  simp only [ob_v, shA_v, shCons_v, shI_v, shNil_v]
  refine Jfind_ok g2 (fun hf M3 l3 => ?_) (fun i x hf hx hin M3 l3 => ?_) fun i x hf hx hin M3 l3 => ?_
  · simp only [go_sem]
    rw [show ((22 : Int) != 0) = true from rfl, bs_true]
    refine resR (g2.le l3) rfl fun M4 g4 => ?_
    exact h0 hf M4 g4.drop
  · simp only [go_sem]
    rw [show ((23 : Int) != 0) = true from rfl, bs_true]
    refine resR (g2.le l3) rfl fun M4 g4 => ?_
    exact h1 i x hf hx hin M4 g4.drop
  · simp only [shT_v, shCons_v, shP_v, shI_v, shNil_v]
    rw [show ((0 : Int) != 0) = false from rfl, bs_false]
    have g3 := g2.le l3
    have hmem := List.mem_of_getElem? hx
    have hqq := g3.ok.q x hmem hin
    have hq01 := g3.ok.qj x hmem
    have hser := g3.ok.ser i x hx
    have ox := g3.h.ju5.jobOwn hmem
    have e0 : rd w0 M3 ⟨x.b, 0, none⟩ = some (.int .i64 x.j.queue) := by rw [← hqq]; exact rd_own (o := 0) ox
    have e1 : rd w0 M3 ⟨x.b, 1, none⟩ = some (.int .i64 (i : Int)) := by rw [← hser]; exact rd_own (o := 1) ox
    have ec := g3.cell hq01
    have hq2 : 0 ≤ x.j.queue ∧ x.j.queue < ((2 : Nat) : Int) := by omega
    simp only [nc_v, ld_one W.c3, ld_one W.c2, ld_one W.c81, add_eq, Nat.zero_add, Nat.mul_one, e0, e1, ec, ob_v, shI_v, shP_v]
    obtain ⟨k1, k2, k3⟩ := qE_out (jobsOf_get hx) hin
    have hqe : (if x.j.queue = 0 then qE 0 (jobsOf L) else qE 1 (jobsOf L)) = qE x.j.queue (jobsOf L) := by
      rcases hq01 with e | e <;> rw [e] <;> rfl
    have hqlen : (qE x.j.queue (jobsOf L)).length ≤ 10000 := by
      have := qE_len x.j.queue (jobsOf L)
      simp only [jobsOf, List.length_map] at this ⊢; omega
    refine ⟨hq2, ?_⟩
    have keyT : ∀ (M4 : Mem) (be : Nat), PlainM w0 F M4 p cb s0 s1 rj rr most bud now L (if x.j.queue = 0 then rmv (qE x.j.queue (jobsOf L)) (i : Int) else qE 0 (jobsOf L)) (if x.j.queue = 0 then qE 1 (jobsOf L) else rmv (qE x.j.queue (jobsOf L)) (i : Int))
          (star (row1 be [.int .i64 x.j.key, .int .i64 (i : Int)] 64) (star (row1 b3 [.int .i64 0, .int .i64 0, .int .i64 0, .int .i64 0, .int .i64 0, .int .i64 0] tRep) (star (row1 b1 [.int .i64 a, .int .i64 g] 25) Q))) →
        (std PP w0).st 4 ⟨x.b, 3, none⟩ (.bool true) (fun M72 => ob (rd w0 M72 ⟨be, 0, none⟩) fun v73 => shI .i64 v73 fun n74 => C PP w0 Id.judge_told #[.int .i64 n74, .pointer (some ⟨x.b, 0, none⟩)] (fun v75 M76 => shA v75 fun l77 => shCons l77 fun u78 r79 => shI .i64 u78 fun n80 => shCons r79 fun u81 r82 => shI .i64 u81 fun n83 => shCons r82 fun u84 r85 => shI .i64 u84 fun n86 => shCons r85 fun u87 r88 => shI .i64 u87 fun n89 => shCons r88 fun u90 r91 => shI .i64 u90 fun n92 => shCons r91 fun u93 r94 => shI .i64 u93 fun n95 => shNil r94
          ((std PP w0).st tRep ⟨b3, 0, none⟩ (.agg #[.int .i64 n80, .int .i64 n83, .int .i64 n86, .int .i64 n89, .int .i64 n92, .int .i64 n95]) (fun M96 => ob ((std PP w0).rdv tRep (.pointer (some ⟨b3, 0, none⟩)) M96) fun v97 => R v97 M96) M76)) M72) M4 := by
      intro M4 be g4
      refine g4.job W.c4 (x' := { x with j := { x.j with inn := false } }) hx rfl rfl rfl rfl (by decide) rfl rfl (by unfold JM.cells; rfl) (g4.ok.set hx rfl rfl rfl (fun e => by cases e) hq01) fun M5 g5 => ?_
      have ee : rd w0 M5 ⟨be, 0, none⟩ = some (.int .i64 x.j.key) := rd_own (o := 0) g5.own
      simp only [ee, ob_v, shI_v]
      have hx5 : (L.set i { x with j := { x.j with inn := false } })[i]? = some { x with j := { x.j with inn := false } } := List.getElem?_set_self (List.getElem?_eq_some_iff.1 hx).1
      refine told_ok (x := { x with j := { x.j with inn := false } }) (g5.h.ju5.jobOwn (List.mem_of_getElem? hx5)) fun M6 l6 => ?_
      simp only [shA_v, shCons_v, shI_v, shNil_v]
      refine resR (g5.drop.le l6) rfl fun M7 g7 => ?_
      refine h2 i x hf hx hin M7 (L.set i { x with j := { x.j with inn := false } }) (List.length_set) (jobsOf_set _ _ _) ?_
      have g8 := g7.drop
      have hjs : jobsOf (L.set i { x with j := { x.j with inn := false } }) = (jobsOf L).set i { x.j with inn := false } := jobsOf_set _ _ _
      rw [hjs]
      rcases hq01 with e | e
      · rw [if_pos e, if_pos e, k1.trans (congrArg (fun q => qE q ((jobsOf L).set i { x.j with inn := false })) e)] at g8
        rw [k3 1 (by omega)]
        exact g8
      · rw [if_neg (by omega), if_neg (by omega), k1.trans (congrArg (fun q => qE q ((jobsOf L).set i { x.j with inn := false })) e)] at g8
        rw [k3 0 (by omega)]
        exact g8
    constructor
    · obtain ⟨F1, hS, hback⟩ := g3.setq hq01
      rw [hqe] at hS
      refine mRemove_ok hS hqlen fun M4 h4 => ?_
      rw [k2]
      simp only [shT_v, shCons_v, shA_v, shI_v, shB_v, shNil_v]
      have g4 := hback M4 _ h4
      intro be hbe hbew
      have g5 := g4.new hbe hbew [.int .i64 0, .int .i64 0] 64
      generalize M4.set be _ = M5 at g5 ⊢
      refine st_agg (vs := [.int .i64 x.j.key, .int .i64 (i : Int)]) W.g64 g5.own (by simp) (by intro v hv; simp only [List.mem_cons, List.not_mem_nil, or_false] at hv; rcases hv with rfl | rfl <;> rfl) ?_
      exact keyT _ be (g5.upd (cs' := over [.int .i64 0, .int .i64 0] 0 [.int .i64 x.j.key, .int .i64 (i : Int)]) (e' := 64))
    · intro be hbe hbew
      have g4 := g3.new hbe hbew [.int .i64 0, .int .i64 0] 64
      generalize M3.set be _ = M4 at g4 ⊢
      have ox4 := g4.h.ju5.jobOwn hmem
      refine ⟨by rw [← hqq]; exact rd_own (o := 0) ox4, g4.cell hq01, by rw [← hser]; exact rd_own (o := 1) ox4, ?_⟩
      obtain ⟨F1, hS, hback⟩ := g4.setq hq01
      rw [hqe] at hS
      refine mRemove_ok hS hqlen fun M5 h5 => ?_
      rw [k2]
      simp only [shT_v, shCons_v, shA_v, shI_v, shB_v, shNil_v]
      have g5 := hback M5 _ h5
      refine st_agg (vs := [.int .i64 x.j.key, .int .i64 (i : Int)]) W.g64 g5.own (by simp) (by intro v hv; simp only [List.mem_cons, List.not_mem_nil, or_false] at hv; rcases hv with rfl | rfl <;> rfl) ?_
      exact keyT _ be (g5.upd (cs' := over [.int .i64 0, .int .i64 0] 0 [.int .i64 x.j.key, .int .i64 (i : Int)]) (e' := 64))
theorem PlainM.ghost {q0 q1 : List Ent} (h : PlainM w0 F M p cb s0 s1 rj rr most bud now L q0 q1 Q) {i : Nat} {x x' : JM} (hx : L[i]? = some x) (hb : x'.b = x.b) (hs : x'.ser = x.ser) (ha : x'.j.at_ = x.j.at_) (hg : x'.j.gen = x.j.gen) (hc : x'.cells = x.cells) (ok : JOk (L.set i x')) :
    PlainM w0 F M p cb s0 s1 rj rr most bud now (L.set i x') q0 q1 Q := by
  obtain ⟨F2, l2, g1, g2, hH⟩ := h.enter
  have hset : ∀ {β : Type} (kf : JM → β), kf x' = kf x → (L.set i x').map kf = L.map kf := fun kf hk => by
    obtain ⟨hi, rfl⟩ := List.getElem?_eq_some_iff.1 hx
    rw [List.map_set, hk, ← List.getElem_map kf (h := by simpa using hi), List.set_getElem_self]
  refine h.back l2 g1 g2 (L' := L.set i x') ?_ (hset _ (by unfold kf1; rw [ha, hg])) (hset _ (by unfold vf1; rw [hb])) (hset _ (by unfold kf2; rw [hs])) ok
  rw [List.length_set]
  have : rowsA (L.set i x') = rowsA L := by
    unfold rowsA
    rw [hset (fun x => (x.b, x.cells, tJ)) (by rw [hb, hc])]
  rw [this]
  exact hH
theorem Jsooner_ok (h : PlainM w0 F M p cb s0 s1 rj rr most bud now L (qE 0 (jobsOf L)) (qE 1 (jobsOf L)) Q) (hL : L.length ≤ 1000) {c : Cmd}
    (h0 : findA (jobsOf L) c.at_ c.gen = none → ∀ M', PlainM w0 F M' p cb s0 s1 rj rr most bud now L (qE 0 (jobsOf L)) (qE 1 (jobsOf L)) Q → R (Rep.v { why := 22 }) M')
    (h1 : ∀ i x, findA (jobsOf L) c.at_ c.gen = some i → L[i]? = some x → x.j.inn = false → ∀ M', PlainM w0 F M' p cb s0 s1 rj rr most bud now L (qE 0 (jobsOf L)) (qE 1 (jobsOf L)) Q → R (Rep.v { why := 23 }) M')
    (h2 : ∀ i x, findA (jobsOf L) c.at_ c.gen = some i → L[i]? = some x → x.j.inn = true → x.j.key < c.time → ∀ M', PlainM w0 F M' p cb s0 s1 rj rr most bud now L (qE 0 (jobsOf L)) (qE 1 (jobsOf L)) Q → R (Rep.v { why := 26 }) M')
    (h3 : ∀ i x, findA (jobsOf L) c.at_ c.gen = some i → L[i]? = some x → x.j.inn = true → c.time ≤ x.j.key → ∀ M' L', L'.length = L.length → jobsOf L' = (jobsOf L).set i { x.j with key := c.time } → PlainM w0 F M' p cb s0 s1 rj rr most bud now L' (qE 0 (jobsOf L')) (qE 1 (jobsOf L')) Q → R (Rep.v { time := c.time, data := x.j.data }) M') :
    C PP w0 Id.jP_sooner #[.pointer (some ⟨p, 0, none⟩), c.v] R M := by
  apply jP_sooner.go
  unfold jP_sooner.T
  intro b1 hb0 hbw
  have g1 := h.new hb0 hbw c.cells tCmd
  change PlainM w0 F (M.set b1 (.row [.int .i64 c.kind, .int .i64 c.queue, .int .i64 c.at_, .int .i64 c.gen, .int .i64 c.time, .int .i64 c.data] tCmd)) _ _ _ _ _ _ _ _ _ _ _ _ _ at g1
  generalize M.set b1 _ = M1 at g1 ⊢
  intro b3 hb3 hbw3
  have g2 := g1.new hb3 hbw3 [.int .i64 0, .int .i64 0, .int .i64 0, .int .i64 0, .int .i64 0, .int .i64 0] tRep
  generalize M1.set b3 _ = M2 at g2 ⊢
  have o1 := g2.swap.own
  rw [show Addr.add ⟨b1, 0, none⟩ 2 = ⟨b1, 2, none⟩ from by rw [add_eq], ld_agg (cs := [.int .i64 c.at_, .int .i64 c.gen]) W.g25 (fun j v hj => by
    rw [add_eq, rd_own o1]
    match j, hj with
    | 0, hj => exact hj
    | 1, hj => exact hj)]
  simp only [ob_v, shA_v, shCons_v, shI_v, shNil_v]
  refine Jfind_ok g2 (fun hf M3 l3 => ?_) (fun i x hf hx hin M3 l3 => ?_) fun i x hf hx hin M3 l3 => ?_
  · simp only [go_sem]
    rw [show ((22 : Int) != 0) = true from rfl, bs_true]
    refine resR (g2.le l3) rfl fun M4 g4 => ?_
    exact h0 hf M4 g4.drop
  · simp only [go_sem]
    rw [show ((23 : Int) != 0) = true from rfl, bs_true]
    refine resR (g2.le l3) rfl fun M4 g4 => ?_
    exact h1 i x hf hx hin M4 g4.drop
  · simp only [shT_v, shCons_v, shP_v, shI_v, shNil_v]
    rw [show ((0 : Int) != 0) = false from rfl, bs_false]
    have g3 := g2.le l3
    have hmem := List.mem_of_getElem? hx
    have hqq := g3.ok.q x hmem hin
    have hq01 := g3.ok.qj x hmem
    have hser := g3.ok.ser i x hx
    have ox := g3.h.ju5.jobOwn hmem
    have e0 : rd w0 M3 ⟨x.b, 0, none⟩ = some (.int .i64 x.j.queue) := by rw [← hqq]; exact rd_own (o := 0) ox
    have e1 : rd w0 M3 ⟨x.b, 1, none⟩ = some (.int .i64 (i : Int)) := by rw [← hser]; exact rd_own (o := 1) ox
    have ec := g3.cell hq01
    have e4 : rd w0 M3 ⟨b1, 4, none⟩ = some (.int .i64 c.time) := rd_own (o := 4) g3.swap.own
    have hq2 : 0 ≤ x.j.queue ∧ x.j.queue < ((2 : Nat) : Int) := by omega
    simp only [nc_v, ld_one W.c3, ld_one W.c2, ld_one W.c81, add_eq, Nat.zero_add, Nat.mul_one, e0, e1, e4, ec, ob_v, shI_v, shP_v]
    have hqe : (if x.j.queue = 0 then qE 0 (jobsOf L) else qE 1 (jobsOf L)) = qE x.j.queue (jobsOf L) := by
      rcases hq01 with e | e <;> rw [e] <;> rfl
    have hqlen : (qE x.j.queue (jobsOf L)).length ≤ 10000 := by
      have := qE_len x.j.queue (jobsOf L)
      simp only [jobsOf, List.length_map] at this ⊢; omega
    refine ⟨hq2, ?_⟩
    obtain ⟨F1, hS, hback⟩ := g3.setq hq01
    rw [hqe] at hS
    refine mLower_ok hS hqlen fun M4 h4 => ?_
    have g4 := hback M4 _ h4
    by_cases hk : c.time ≤ x.j.key
    · obtain ⟨k1, k2, k3⟩ := qE_low (jobsOf_get hx) hin hk
      rw [k2]
      simp only [shB_v, Bool.not_true, bs_false]
      have e5 : rd w0 M4 ⟨b1, 4, none⟩ = some (.int .i64 c.time) := rd_own (o := 4) g4.swap.own
      rw [e5]
      simp only [ob_v, shI_v]
      refine told_ok (x := x) (g4.h.ju5.jobOwn hmem) fun M6 l6 => ?_
      simp only [shA_v, shCons_v, shI_v, shNil_v]
      refine resR (g4.le l6) rfl fun M7 g7 => ?_
      have hjs : jobsOf (L.set i { x with j := { x.j with key := c.time } }) = (jobsOf L).set i { x.j with key := c.time } := jobsOf_set _ _ _
      refine h3 i x hf hx hin hk M7 (L.set i { x with j := { x.j with key := c.time } }) List.length_set hjs ?_
      have g8 := g7.drop.ghost hx (x' := { x with j := { x.j with key := c.time } }) rfl rfl rfl rfl rfl (g7.ok.set hx rfl rfl rfl (fun _ => hqq) hq01)
      rw [hjs]
      rcases hq01 with e | e
      · rw [if_pos e, if_pos e, k1.trans (congrArg (fun q => qE q ((jobsOf L).set i { x.j with key := c.time })) e)] at g8
        rw [k3 1 (by omega)]
        exact g8
      · rw [if_neg (by omega), if_neg (by omega), k1.trans (congrArg (fun q => qE q ((jobsOf L).set i { x.j with key := c.time })) e)] at g8
        rw [k3 0 (by omega)]
        exact g8
    · obtain ⟨k1, k2⟩ := qE_lowN (jobsOf_get hx) hin (k := c.time) (by omega)
      rw [k2]
      simp only [shB_v, Bool.not_false, bs_true, go_sem]
      refine resR g4 rfl fun M7 g7 => ?_
      refine h2 i x hf hx hin (by omega) M7 ?_
      have g8 := g7.drop
      rw [k1] at g8
      rcases hq01 with e | e
      · rw [if_pos e, if_pos e, congrArg (fun q => qE q (jobsOf L)) e] at g8; exact g8
      · rw [if_neg (by omega), if_neg (by omega), congrArg (fun q => qE q (jobsOf L)) e] at g8; exact g8
end
end Go.Proofs.Ytedofpnjmnkedaa.HL
namespace Go.Proofs.Ytedofpnjmnkedaa.HL
open Go.RowKit (Below)
open Go.Proofs
theorem qE_head {q : Int} {l : List JobA} {e : Ent} (h : (qE q l).head? = some e) : ∃ (i : Nat) (j : JobA), l[i]? = some j ∧ j.inn = true ∧ j.queue = q ∧ e = (j.key, (i : Int)) := by
  have hm : e ∈ qE q l := List.mem_of_mem_head? (by rw [h]; rfl)
  obtain ⟨i, j, h1, h2, h3, h4⟩ := inE_mem.1 ((sortE_perm _).mem_iff.1 hm)
  refine ⟨i, j, h1, h2, by simpa [ofQ] using h3, ?_⟩
  rw [h4, Nat.zero_add]
theorem qE_tail {q : Int} {l : List JobA} {i : Nat} {j : JobA} (hj : l[i]? = some j) (hin : j.inn = true) (hq : j.queue = q) (h : (qE q l).head? = some (j.key, (i : Int))) : (qE q l).tail = qE q (l.set i { j with inn := false }) := by
  subst hq
  obtain ⟨k1, _, _⟩ := qE_out hj hin
  rw [← k1]
  cases hl : qE j.queue l with
  | nil => rw [hl] at h; cases h
  | cons e t =>
    rw [hl] at h
    simp only [List.head?_cons, Option.some.injEq] at h
    subst h
    have : fnd ((j.key, (i : Int)) :: t) (i : Int) = some 0 := fnd_of (e := (j.key, (i : Int))) rfl rfl fun k hk => by omega
    unfold rmv
    rw [this]; rfl
theorem findA_self {L : List JM} (ok : JOk L) {i : Nat} {x : JM} (hx : L[i]? = some x) : findA (jobsOf L) x.j.at_ x.j.gen = some i := by
  obtain ⟨hi, rfl⟩ := List.getElem?_eq_some_iff.1 hx
  unfold findA
  refine List.findIdx?_eq_some_iff_getElem.2 ⟨by simpa [jobsOf] using hi, by simp [jobsOf], fun k hk => ?_⟩
  have hkl : k < L.length := by omega
  simp only [jobsOf, List.getElem_map, decide_eq_true_eq]
  intro hh
  have hnd := ok.nod
  have h1 : k < (L.map fun x => (x.j.at_, x.j.gen)).length := by simpa using hkl
  have h2 : i < (L.map fun x => (x.j.at_, x.j.gen)).length := by simpa using hi
  exact List.pairwise_iff_getElem.1 hnd k i h1 h2 hk (by simp only [List.getElem_map]; exact Prod.ext hh.1 hh.2)
section
variable {w0 : World} {F M : Mem} {R : VP} {p cb s0 s1 rj rr : Nat} {most bud now : Int} {L : List JM} {Q : Asn}
theorem Jfire_ok (h : PlainM w0 F M p cb s0 s1 rj rr most bud now L (qE 0 (jobsOf L)) (qE 1 (jobsOf L)) Q) (hL : L.length ≤ 1000) {q : Int} (hq : q = 0 ∨ q = 1)
    (h0 : (∀ e, (qE q (jobsOf L)).head? = some e → now < e.1) → ∀ M', PlainM w0 F M' p cb s0 s1 rj rr most bud now L (qE 0 (jobsOf L)) (qE 1 (jobsOf L)) Q → R (Rep.v { why := 28 }) M')
    (h1 : ∀ (i : Nat) x, (qE q (jobsOf L)).head? = some (x.j.key, (i : Int)) → x.j.key ≤ now → L[i]? = some x → ∀ M' L', L'.length = L.length → jobsOf L' = (jobsOf L).set i { x.j with inn := false } → PlainM w0 F M' p cb s0 s1 rj rr most bud now L' (qE 0 (jobsOf L')) (qE 1 (jobsOf L')) Q → R (Rep.v { at_ := x.j.at_, gen := x.j.gen, time := x.j.key, data := x.j.data }) M') :
    C PP w0 Id.jP_fire #[.pointer (some ⟨p, 0, none⟩), .int .i64 q] R M := by
  apply jP_fire.go
  intro pts H
  unfold jP_fire.T
  intro b1 hb0 hbw
  have g1 := h.new hb0 hbw [.int .i64 0, .int .i64 0, .int .i64 0, .int .i64 0, .int .i64 0, .int .i64 0] tRep
  generalize M.set b1 _ = M1 at g1 ⊢
  have hq2 : 0 ≤ q ∧ q < ((2 : Nat) : Int) := by omega
  have ec := g1.cell hq
  simp only [nc_v, ld_one W.c81, add_eq, Nat.zero_add, Nat.mul_one, ec, ob_v, shP_v]
  refine ⟨hq2, ?_⟩
  have hqe : (if q = 0 then qE 0 (jobsOf L) else qE 1 (jobsOf L)) = qE q (jobsOf L) := by
    rcases hq with e | e <;> rw [e] <;> rfl
  have hqlen : (qE q (jobsOf L)).length ≤ 10000 := by
    have := qE_len q (jobsOf L)
    simp only [jobsOf, List.length_map] at this ⊢; omega
  obtain ⟨F1, hS, hback⟩ := g1.setq hq
  rw [hqe] at hS
  refine mMin_ok hS hqlen fun M2 h2 => ?_
  have g2 := hback M2 _ h2
  have hsame : ∀ {M' : Mem} {Q' : Asn}, PlainM w0 F M' p cb s0 s1 rj rr most bud now L (if q = 0 then qE q (jobsOf L) else qE 0 (jobsOf L)) (if q = 0 then qE 1 (jobsOf L) else qE q (jobsOf L)) Q' → PlainM w0 F M' p cb s0 s1 rj rr most bud now L (qE 0 (jobsOf L)) (qE 1 (jobsOf L)) Q' := fun g => by
    rcases hq with e | e
    · subst e; exact g
    · subst e; exact g
  have g2 := hsame g2
  simp only [shT_v, shCons_v, shA_v, shI_v, shB_v, shNil_v]
  intro be hbe hbew
  have g3 := g2.new hbe hbew [.int .i64 0, .int .i64 0] 64
  generalize M2.set be _ = M3 at g3 ⊢
  refine st_agg (vs := [.int .i64 ((qE q (jobsOf L)).headD (0, 0)).1, .int .i64 ((qE q (jobsOf L)).headD (0, 0)).2]) W.g64 g3.own (by simp) (by intro v hv; simp only [List.mem_cons, List.not_mem_nil, or_false] at hv; rcases hv with rfl | rfl <;> rfl) ?_
  have g4 := g3.upd (cs' := over [.int .i64 0, .int .i64 0] 0 [.int .i64 ((qE q (jobsOf L)).headD (0, 0)).1, .int .i64 ((qE q (jobsOf L)).headD (0, 0)).2]) (e' := 64)
  have hov : over [.int .i64 0, .int .i64 0] 0 [.int .i64 ((qE q (jobsOf L)).headD (0, 0)).1, .int .i64 ((qE q (jobsOf L)).headD (0, 0)).2] = [Value.int .i64 ((qE q (jobsOf L)).headD (0, 0)).1, .int .i64 ((qE q (jobsOf L)).headD (0, 0)).2] := rfl
  rw [hov] at g4 ⊢
  generalize M3.set be _ = M4 at g4 ⊢
  cases hl : qE q (jobsOf L) with
  | nil =>
    rw [hl] at g4
    simp only [List.isEmpty_nil, Bool.not_true, Bool.not_false, bs_true, go_sem]
    refine resR g4.drop rfl fun M5 g5 => ?_
    exact h0 (fun e he => by rw [hl] at he; cases he) M5 g5
  | cons e t =>
    rw [hl] at g4
    have hhd : (qE q (jobsOf L)).head? = some e := by rw [hl]; rfl
    obtain ⟨i, j, hj, hin, hjq, he⟩ := qE_head hhd
    obtain ⟨x, hx, hxj⟩ : ∃ x, L[i]? = some x ∧ x.j = j := by
      unfold jobsOf at hj
      rw [List.getElem?_map] at hj
      cases hx : L[i]? with
      | none => rw [hx] at hj; cases hj
      | some x => rw [hx] at hj; exact ⟨x, rfl, by simpa using hj⟩
    subst hxj
    subst he
    simp only [List.isEmpty_cons, Bool.not_false, Bool.not_true, bs_false, List.headD_cons] at g4 ⊢
    have e2 : rd w0 M4 ⟨p, 2, none⟩ = some (.pointer (some ⟨cb, 0, none⟩)) := rd_own (o := 2) g4.h.own1
    have e3 : rd w0 M4 ⟨be, 0, none⟩ = some (.int .i64 x.j.key) := rd_own (o := 0) g4.own
    have e4 : rd w0 M4 ⟨cb, 0, none⟩ = some (.int .i64 now) := rd_own (o := 0) g4.h.rot.own1
    simp only [nc_v, ld_one W.c79, ld_one W.c2, add_eq, Nat.zero_add, e2, e3, ob_v, shP_v, shI_v]
    refine cDue_ok e4 ?_
    rw [shB_v, bs_not, bs_decide]
    split
    · rename_i hdue
      rw [H.J1]
      unfold jP_fire.J1.T
      have ec4 := g4.cell hq
      simp only [nc_v, ld_one W.c81, add_eq, Nat.zero_add, Nat.mul_one, ec4, ob_v, shP_v]
      refine ⟨hq2, ?_⟩
      obtain ⟨F3, hS3, hback3⟩ := g4.setq hq
      rw [hqe] at hS3
      refine mPop_ok hS3 hqlen fun M5 h5 => ?_
      have g5 := hback3 M5 _ h5
      rw [qE_tail hj hin hjq hhd] at g5
      simp only [shT_v, shCons_v, shA_v, shI_v, shB_v, shNil_v]
      have e6 : rd w0 M5 ⟨p, 6, none⟩ = some (.map (some rr)) := rd_own (o := 6) g5.h.own1
      have e7 : rd w0 M5 ⟨be, 1, none⟩ = some (.int .i64 (i : Int)) := rd_own (o := 1) g5.own
      simp only [ld_one cM2, ld_one W.c2, add_eq, Nat.zero_add, e6, e7, ob_v, shI_v]
      rw [refs_lk g5.wr g5.mr g5.ok.ser hx]
      simp only [ob_v, shA_v, shCons_v, shI_v, shNil_v]
      intro br hbr hbrw
      have g6 := g5.new hbr hbrw [.int .i64 0, .int .i64 0] 25
      generalize M5.set br _ = M6 at g6 ⊢
      refine ⟨rd_own (o := 6) g6.h.own1, rd_own (o := 1) g6.swap.own, refs_lk g6.wr g6.mr g6.ok.ser hx, ?_⟩
      refine st_agg (vs := [.int .i64 x.j.at_, .int .i64 x.j.gen]) W.g25 g6.own (by simp) (by intro v hv; simp only [List.mem_cons, List.not_mem_nil, or_false] at hv; rcases hv with rfl | rfl <;> rfl) ?_
      have g7 := g6.upd (cs' := over [.int .i64 0, .int .i64 0] 0 [.int .i64 x.j.at_, .int .i64 x.j.gen]) (e' := 25)
      have hov2 : over [.int .i64 0, .int .i64 0] 0 [.int .i64 x.j.at_, .int .i64 x.j.gen] = [Value.int .i64 x.j.at_, .int .i64 x.j.gen] := rfl
      rw [hov2] at g7 ⊢
      generalize M6.set br _ = M7 at g7 ⊢
      have hfs := findA_self g7.ok hx
      have ld7 : ∀ {M' : Mem} {cs : Nat}, Own w0 M' br [.int .i64 x.j.at_, .int .i64 x.j.gen] 25 → (std PP w0).ld 25 ⟨br, 0, none⟩ M' = some (.agg #[.int .i64 x.j.at_, .int .i64 x.j.gen]) := fun o => ld_agg (cs := [.int .i64 x.j.at_, .int .i64 x.j.gen]) W.g25 (fun j v hj => by rw [add_eq, rd_own o, Nat.zero_add]; exact hj)
      have e5 : rd w0 M7 ⟨p, 5, none⟩ = some (.map (some rj)) := rd_own (o := 5) g7.h.own1
      rw [ld7 (cs := 0) g7.own]
      simp only [ld_one cM1, add_eq, Nat.zero_add, e5, ob_v, shA_v, shCons_v, shI_v, shNil_v]
      rw [jobs_lk g7.wj g7.mj, hfs]
      simp only [Option.bind_some, hx, Option.map_some, Option.getD_some, vf1, ob_v, shP_v, nc_v, add_eq, Nat.zero_add]
      have hq01 : x.j.queue = 0 ∨ x.j.queue = 1 := by rw [hjq]; exact hq
      refine g7.job (o := 3) W.c4 (x' := { x with j := { x.j with inn := false } }) hx rfl rfl rfl rfl (by decide) rfl rfl (by unfold JM.cells; rfl) (g7.ok.set hx rfl rfl rfl (fun e => by cases e) hq01) fun M8 g8 => ?_
      have hjs : jobsOf (L.set i { x with j := { x.j with inn := false } }) = (jobsOf L).set i { x.j with inn := false } := jobsOf_set _ _ _
      have hx8 : (L.set i { x with j := { x.j with inn := false } })[i]? = some { x with j := { x.j with inn := false } } := List.getElem?_set_self (List.getElem?_eq_some_iff.1 hx).1
      have hfs8 := findA_self g8.ok hx8
      have e8 : rd w0 M8 ⟨be, 0, none⟩ = some (.int .i64 x.j.key) := rd_own (o := 0) g8.swap.own
      have e9 : rd w0 M8 ⟨p, 5, none⟩ = some (.map (some rj)) := rd_own (o := 5) g8.h.own1
      rw [ld7 (cs := 0) g8.own]
      simp only [ld_one W.c2, ld_one cM1, add_eq, Nat.zero_add, e8, e9, ob_v, shA_v, shCons_v, shI_v, shNil_v]
      have hlk8 : ∀ {M' : Mem} {Q' : Asn} {a b : List Ent}, PlainM w0 F M' p cb s0 s1 rj rr most bud now (L.set i { x with j := { x.j with inn := false } }) a b Q' → (std PP w0).lk 84 (.map (some rj)) (.agg #[.int .i64 x.j.at_, .int .i64 x.j.gen]) false M' = some (.pointer (some ⟨x.b, 0, none⟩)) := fun g => by
        have := jobs_lk g.wj g.mj x.j.at_ x.j.gen
        rw [show findA (jobsOf (L.set i { x with j := { x.j with inn := false } })) x.j.at_ x.j.gen = some i from hfs8] at this
        rw [this, Option.bind_some, hx8]; rfl
      rw [hlk8 g8]
      simp only [ob_v, shP_v]
      have hx8m := List.mem_of_getElem? hx8
      have keyT : ∀ (M9 : Mem) (bo : Nat), PlainM w0 F M9 p cb s0 s1 rj rr most bud now (L.set i { x with j := { x.j with inn := false } }) (if q = 0 then qE q ((jobsOf L).set i { x.j with inn := false }) else qE 0 (jobsOf L)) (if q = 0 then qE 1 (jobsOf L) else qE q ((jobsOf L).set i { x.j with inn := false }))
            (star (row1 bo [.int .i64 0, .int .i64 0, .int .i64 0, .int .i64 0, .int .i64 0, .int .i64 0] tRep) (star (row1 br [.int .i64 x.j.at_, .int .i64 x.j.gen] 25) (star (row1 be [.int .i64 x.j.key, .int .i64 (i : Int)] 64) (star (row1 b1 [.int .i64 0, .int .i64 0, .int .i64 0, .int .i64 0, .int .i64 0, .int .i64 0] tRep) Q)))) →
          (std PP w0).st 32 ⟨bo, 0, none⟩ (.agg #[.int .i64 0, .int .i64 0, .int .i64 0, .int .i64 x.j.key, .int .i64 x.j.data, .int .i64 0]) (fun M160 => ob ((std PP w0).ld 25 ⟨br, 0, none⟩ M160) fun v161 => shA v161 fun l162 => shCons l162 fun u163 r164 => shI .i64 u163 fun n165 => shCons r164 fun u166 r167 => shI .i64 u166 fun n168 => shNil r167
            ((std PP w0).st 25 ⟨bo, 1, none⟩ (.agg #[.int .i64 n165, .int .i64 n168]) (fun M169 => ob ((std PP w0).ld 32 ⟨bo, 0, none⟩ M169) fun v170 => shA v170 fun l171 => shCons l171 fun u172 r173 => shI .i64 u172 fun n174 => shCons r173 fun u175 r176 => shI .i64 u175 fun n177 => shCons r176 fun u178 r179 => shI .i64 u178 fun n180 => shCons r179 fun u181 r182 => shI .i64 u181 fun n183 => shCons r182 fun u184 r185 => shI .i64 u184 fun n186 => shCons r185 fun u187 r188 => shI .i64 u187 fun n189 => shNil r188
              ((std PP w0).st 32 ⟨b1, 0, none⟩ (.agg #[.int .i64 n174, .int .i64 n177, .int .i64 n180, .int .i64 n183, .int .i64 n186, .int .i64 n189]) (fun M190 => ob ((std PP w0).rdv 32 (.pointer (some ⟨b1, 0, none⟩)) M190) fun v191 => R v191 M190) M169)) M160)) M9 := by
        intro M9 bo g9
        refine st_agg (vs := [.int .i64 0, .int .i64 0, .int .i64 0, .int .i64 x.j.key, .int .i64 x.j.data, .int .i64 0]) W.g32 g9.own (by simp) (by intro v hv; simp only [List.mem_cons, List.not_mem_nil, or_false] at hv; rcases hv with rfl | rfl | rfl | rfl | rfl | rfl <;> rfl) ?_
        have g10 := g9.upd (cs' := over [.int .i64 0, .int .i64 0, .int .i64 0, .int .i64 0, .int .i64 0, .int .i64 0] 0 [.int .i64 0, .int .i64 0, .int .i64 0, .int .i64 x.j.key, .int .i64 x.j.data, .int .i64 0]) (e' := tRep)
        have hov3 : over [.int .i64 0, .int .i64 0, .int .i64 0, .int .i64 0, .int .i64 0, .int .i64 0] 0 [.int .i64 0, .int .i64 0, .int .i64 0, .int .i64 x.j.key, .int .i64 x.j.data, .int .i64 0] = [Value.int .i64 0, .int .i64 0, .int .i64 0, .int .i64 x.j.key, .int .i64 x.j.data, .int .i64 0] := rfl
        rw [hov3] at g10 ⊢
        generalize M9.set bo _ = M10 at g10 ⊢
        rw [ld7 (cs := 0) g10.swap.own]
        simp only [ob_v, shA_v, shCons_v, shI_v, shNil_v]
        refine st_agg (vs := [.int .i64 x.j.at_, .int .i64 x.j.gen]) W.g25 g10.own (by simp) (by intro v hv; simp only [List.mem_cons, List.not_mem_nil, or_false] at hv; rcases hv with rfl | rfl <;> rfl) ?_
        have g11 := g10.upd (cs' := over [.int .i64 0, .int .i64 0, .int .i64 0, .int .i64 x.j.key, .int .i64 x.j.data, .int .i64 0] 1 [.int .i64 x.j.at_, .int .i64 x.j.gen]) (e' := tRep)
        have hov4 : over [.int .i64 0, .int .i64 0, .int .i64 0, .int .i64 x.j.key, .int .i64 x.j.data, .int .i64 0] 1 [.int .i64 x.j.at_, .int .i64 x.j.gen] = [Value.int .i64 0, .int .i64 x.j.at_, .int .i64 x.j.gen, .int .i64 x.j.key, .int .i64 x.j.data, .int .i64 0] := rfl
        rw [hov4] at g11 ⊢
        generalize M10.set bo _ = M11 at g11 ⊢
        have o11 := g11.own
        rw [ld_agg (cs := [.int .i64 0, .int .i64 x.j.at_, .int .i64 x.j.gen, .int .i64 x.j.key, .int .i64 x.j.data, .int .i64 0]) W.g32 (fun j v hj => by rw [add_eq, rd_own o11, Nat.zero_add]; exact hj)]
        simp only [ob_v, shA_v, shCons_v, shI_v, shNil_v]
        refine resR g11.drop.drop.drop rfl fun M12 g12 => ?_
        refine h1 i x hhd (by omega) hx M12 _ List.length_set hjs ?_
        rw [hjs]
        obtain ⟨_, _, k3⟩ := qE_out (jobsOf_get hx) hin
        rcases hq with e | e
        · subst e
          rw [k3 1 (by rw [hjq]; decide)]
          exact g12
        · subst e
          rw [k3 0 (by rw [hjq]; decide)]
          exact g12
      constructor
      · refine told_ok (x := { x with j := { x.j with inn := false } }) (g8.h.ju5.jobOwn hx8m) fun M9 l9 => ?_
        simp only [shA_v, shCons_v, shI_v, shNil_v]
        intro bo hbo hbow
        exact keyT _ bo ((g8.le l9).new hbo hbow _ _)
      · intro bo hbo hbow
        have g9 := g8.new hbo hbow [.int .i64 0, .int .i64 0, .int .i64 0, .int .i64 0, .int .i64 0, .int .i64 0] tRep
        generalize M8.set bo _ = M9 at g9 ⊢
        refine ⟨rd_own (o := 0) g9.drop.swap.own, rd_own (o := 5) g9.h.own1, ld7 (cs := 0) g9.swap.own, hlk8 g9, ?_⟩
        refine told_ok (x := { x with j := { x.j with inn := false } }) (g9.h.ju5.jobOwn hx8m) fun M10 l10 => ?_
        simp only [shA_v, shCons_v, shI_v, shNil_v]
        exact keyT _ bo (g9.le l10)
    · rename_i hdue
      simp only [go_sem]
      refine resR g4.drop rfl fun M5 g5 => ?_
      exact h0 (fun e he => by rw [hhd] at he; cases he; show now < x.j.key; omega) M5 g5
end
end Go.Proofs.Ytedofpnjmnkedaa.HL
namespace Go.Proofs.Ytedofpnjmnkedaa.HL
open Go.RowKit (Below)
open Go.Proofs
theorem qE_merge {l : List JobA} (h : QInv l) : insAll (qE 0 l) (qE 1 l) = qE 0 (l.map fun j => { j with queue := 0 }) ∧ qE 1 (l.map fun j => { j with queue := 0 }) = [] := by
  refine ⟨?_, ?_⟩
  · unfold qE
    rw [inE_map0]
    exact join_sort (inE_both 0 h)
  · unfold qE
    rw [inE_map1]; rfl
theorem qE_disj (l : List JobA) : Disj (qE 0 l) (qE 1 l) := fun e he => fnd_no fun x hx hs => by
  obtain ⟨i, j, a1, a2, a3, rfl⟩ := inE_mem.1 ((sortE_perm _).mem_iff.1 he)
  obtain ⟨k, y, b1, b2, b3, rfl⟩ := inE_mem.1 ((sortE_perm _).mem_iff.1 hx)
  simp only at hs
  have hik : k = i := by omega
  subst hik
  rw [a1] at b1; cases b1
  simp only [ofQ, decide_eq_true_eq] at a3 b3
  omega
section
variable {w0 : World} {F M : Mem} {R : VP} {p cb s0 s1 rj rr : Nat} {most bud now : Int} {L : List JM} {Q : Asn}
theorem Holds.ju3s {A B D E : Asn} (h : Holds w0 F M (star A (star B (star D E)))) : Holds w0 F M (star A (star D (star B E))) := by
  obtain ⟨F', h1, _, h3⟩ := h.last
  exact h3 _ _ h1.rot
theorem PlainM.ghostAll {q0 q1 : List Ent} {f : JM → JM} (h : PlainM w0 F M p cb s0 s1 rj rr most bud now L q0 q1 Q) (hb : ∀ x, (f x).b = x.b) (hs : ∀ x, (f x).ser = x.ser) (ha : ∀ x, (f x).j.at_ = x.j.at_) (hg : ∀ x, (f x).j.gen = x.j.gen) (hc : ∀ x, (f x).cells = x.cells) (ok : JOk (L.map f)) :
    PlainM w0 F M p cb s0 s1 rj rr most bud now (L.map f) q0 q1 Q := by
  obtain ⟨F2, l2, g1, g2, hH⟩ := h.enter
  refine h.back l2 g1 g2 (L' := L.map f) ?_ (by rw [List.map_map]; exact List.map_congr_left fun x _ => by simp only [Function.comp, kf1, ha, hg]) (by rw [List.map_map]; exact List.map_congr_left fun x _ => by simp only [Function.comp, vf1, hb]) (by rw [List.map_map]; exact List.map_congr_left fun x _ => by simp only [Function.comp, kf2, hs]) ok
  rw [List.length_map]
  have : rowsA (L.map f) = rowsA L := by
    unfold rowsA
    rw [List.map_map]
    have : ((fun x : JM => (x.b, x.cells, tJ)) ∘ f) = fun x => (x.b, x.cells, tJ) := funext fun x => by simp only [Function.comp, hb, hc]
    rw [this]
  rw [this]
  exact hH
theorem mAllE_ok {s : Nat} {l : List Ent} {Q : Asn} (h : SetH w0 F M tS s l Q) (hb : l.length ≤ 10000) (hR : ∀ M' x, SetH w0 F M' tS s l (star (Es x l) Q) → R (SV.v x) M') : C PP w0 Id.mS_All #[.pointer (some ⟨s, 0, none⟩)] R M := by
  apply mS_All.go
  unfold mS_All.T
  obtain ⟨sv, h1, h2, h3, h4, h5⟩ := h.see
  simp only [nc_v, ld_one W.c59, h3, ob_v, shS_sv]
  refine CloneE_ok h1 h4 (by omega) fun M1 s1 hH1 => ?_
  rw [shS_sv]
  exact hR M1 s1 ⟨sv, hH1.rot.ju3s⟩
theorem PlainM.setqX {q0 q1 : List Ent} (h : PlainM w0 F M p cb s0 s1 rj rr most bud now L q0 q1 Q) {q : Int} (hq : q = 0 ∨ q = 1) : ∃ F1 : Mem, SetH w0 F1 M tS (sqOf q s0 s1) (if q = 0 then q0 else q1) emp ∧
    ∀ M' l' X, SetH w0 F1 M' tS (sqOf q s0 s1) l' (star X emp) → PlainM w0 F M' p cb s0 s1 rj rr most bud now L (if q = 0 then l' else q0) (if q = 0 then q1 else l') (star X Q) := by
  obtain ⟨F2, l2, g1, g2, hH⟩ := h.enter
  have toE : ∀ {F1 M1 : Mem} {A : Asn}, Holds w0 F1 M1 A → Holds w0 F1 M1 (star A emp) := fun ⟨r, a1, a2⟩ => ⟨r, ⟨r, [], by simp, a1, rfl⟩, a2⟩
  have ofE : ∀ {F1 M1 : Mem} {A X : Asn}, Holds w0 F1 M1 (star A (star X emp)) → Holds w0 F1 M1 (star X A) := fun ⟨r, ⟨r1, r2, e1, c1, r3, r4, e2, c2, c3⟩, c4⟩ => by
    have c3' : r4 = [] := c3
    subst c3' e2 e1
    exact ⟨r3 ++ r1, ⟨r3, r1, rfl, c2, c1⟩, c4.perm (by rw [List.append_nil]; exact List.perm_append_comm)⟩
  have asc : ∀ {M1 : Mem} {X A B : Asn}, Holds w0 F2 M1 (star (star X A) B) → Holds w0 F2 M1 (star X (star A B)) := fun ⟨r, ⟨r1, r2, e1, ⟨r3, r4, e2, c1, c2⟩, c3⟩, c4⟩ => by
    subst e2 e1
    exact ⟨_, ⟨r3, r4 ++ r2, by simp, c1, r4, r2, rfl, c2, c3⟩, c4⟩
  rcases hq with rfl | rfl
  · obtain ⟨F1, a1, a2, a3⟩ := hH.mdr3.aside
    refine ⟨F1, SetH.ofA (toE a1), fun M' l' X hs => ?_⟩
    have b1 := asc (a3 M' _ (ofE hs.toA))
    obtain ⟨F3, c1, c2, c3⟩ := b1.last
    exact h.back l2 g1 g2 (c3 _ _ c1.ju3i).ju6i rfl rfl rfl h.ok
  · obtain ⟨F1, a1, a2, a3⟩ := hH.ju4.aside
    refine ⟨F1, SetH.ofA (toE a1), fun M' l' X hs => ?_⟩
    have b1 := asc (a3 M' _ (ofE hs.toA))
    obtain ⟨F3, c1, c2, c3⟩ := b1.last
    exact h.back l2 g1 g2 (c3 _ _ c1.ju4i).ju6i rfl rfl rfl h.ok
def JM.z (x : JM) : JM := { x with q := 0, j := { x.j with queue := 0 } }
theorem Jmerge_ok (h : PlainM w0 F M p cb s0 s1 rj rr most bud now L (qE 0 (jobsOf L)) (qE 1 (jobsOf L)) Q) (hL : L.length ≤ 1000)
    (h1 : ∀ M' L', L'.length = L.length → jobsOf L' = (jobsOf L).map (fun j => { j with queue := 0 }) → PlainM w0 F M' p cb s0 s1 rj rr most bud now L' (qE 0 (jobsOf L')) (qE 1 (jobsOf L')) Q → R (Rep.v { n := ((qE 1 (jobsOf L)).length : Int) }) M') :
    C PP w0 Id.jP_merge #[.pointer (some ⟨p, 0, none⟩)] R M := by
  apply jP_merge.go
  intro pts H
  unfold jP_merge.T
  intro b1 hb0 hbw
  have g1 := h.new hb0 hbw [.int .i64 0, .int .i64 0, .int .i64 0, .int .i64 0, .int .i64 0, .int .i64 0] tRep
  generalize M.set b1 _ = M1 at g1 ⊢
  have ec := g1.cell (.inr rfl)
  have hqlen : (qE 1 (jobsOf L)).length ≤ 1000 := by
    have := qE_len 1 (jobsOf L)
    simp only [jobsOf, List.length_map] at this ⊢; omega
  have ec1 : rd w0 M1 ⟨p, 4, none⟩ = some (.pointer (some ⟨s1, 0, none⟩)) := ec
  simp only [nc_v, ld_one W.c81, add_eq, Nat.zero_add, Nat.mul_one, Nat.reduceAdd, Int.toNat_one, ec1, ob_v, shP_v]
  refine ⟨⟨by decide, by decide⟩, ?_⟩
  obtain ⟨F1, hS, hback⟩ := g1.setqX (.inr rfl)
  refine mLen_ok hS ?_
  rw [shI_v]
  simp only [nc_v, ld_one W.c81, add_eq, Nat.zero_add, Nat.mul_one, Nat.reduceAdd, Int.toNat_one, ec1, ob_v, shP_v]
  refine ⟨⟨by decide, by decide⟩, ?_⟩
  refine mAllE_ok hS (show (qE 1 (jobsOf L)).length ≤ 10000 by omega) fun M2 x hS2 => ?_
  rw [shS_sv]
  have g2 : PlainM w0 F M2 p cb s0 s1 rj rr most bud now L (qE 0 (jobsOf L)) (qE 1 (jobsOf L)) (star (Es x (qE 1 (jobsOf L))) (star (row1 b1 [.int .i64 0, .int .i64 0, .int .i64 0, .int .i64 0, .int .i64 0, .int .i64 0] tRep) Q)) := hback M2 _ _ hS2
  have hzz : ∀ y : JM, y.z.z = y.z := fun y => rfl
  have key : ∀ (k i : Nat) (L' : List JM) (M' : Mem), i ≤ (qE 1 (jobsOf L)).length → (qE 1 (jobsOf L)).length < i + k → L'.length = L.length → (∀ (a : Nat) y, L[a]? = some y → L'[a]? = some y ∨ L'[a]? = some y.z) → (∀ (a : Nat) y e, L[a]? = some y → e ∈ (qE 1 (jobsOf L)).take i → e.2 = (a : Int) → L'[a]? = some y.z) →
      PlainM w0 F M' p cb s0 s1 rj rr most bud now L' (qE 0 (jobsOf L)) (qE 1 (jobsOf L)) (star (Es x (qE 1 (jobsOf L))) (star (row1 b1 [.int .i64 0, .int .i64 0, .int .i64 0, .int .i64 0, .int .i64 0, .int .i64 0] tRep) Q)) →
      jP_merge.L1 pts k (some ⟨p, 0, none⟩) ⟨b1, 0, none⟩ (((qE 1 (jobsOf L)).length : Nat) : Int) x ((x.n : Nat) : Int) (i : Int) M' := by
    intro k
    induction k with
    | zero => intro i L' M' h1 h2; omega
    | succ k ih =>
      intro i L' M' hi hk hlen hrel hdone g
      have hr := g.h.ju6.rdE
      have hxn := hr.len
      rw [H.L1]
      unfold jP_merge.L1.T
      rw [bs_decide]
      split
      · have hlt : i < (qE 1 (jobsOf L)).length := by omega
        have ee := List.getElem?_eq_getElem hlt
        generalize (qE 1 (jobsOf L))[i] = e at ee
        obtain ⟨a, j, ja, jb, jc, rfl⟩ := inE_mem.1 ((sortE_perm _).mem_iff.1 (List.mem_of_getElem? ee))
        rw [Nat.zero_add] at ee
        have hal : a < L.length := by
          have := (List.getElem?_eq_some_iff.1 ja).1
          simpa [jobsOf] using this
        have hLa := List.getElem?_eq_getElem hal
        generalize L[a] = v at hLa
        obtain ⟨w, hw, hwz⟩ : ∃ w, L'[a]? = some w ∧ w.z = v.z := by
          rcases hrel a v hLa with hv | hv
          · exact ⟨v, hv, rfl⟩
          · exact ⟨v.z, hv, rfl⟩
        refine rdE hr (Mem.le_refl _) i rfl ee ?_
        intro be hbe hbew
        have g3 := g.new hbe hbew [.int .i64 0, .int .i64 0] 64
        generalize M'.set be _ = M3 at g3 ⊢
        refine st_agg (vs := [.int .i64 j.key, .int .i64 (a : Int)]) W.g64 g3.own (by simp) (by intro v hv; simp only [List.mem_cons, List.not_mem_nil, or_false] at hv; rcases hv with rfl | rfl <;> rfl) ?_
        have g4 := g3.upd (cs' := over [.int .i64 0, .int .i64 0] 0 [.int .i64 j.key, .int .i64 (a : Int)]) (e' := 64)
        have hov : over [.int .i64 0, .int .i64 0] 0 [.int .i64 j.key, .int .i64 (a : Int)] = [Value.int .i64 j.key, .int .i64 (a : Int)] := rfl
        rw [hov] at g4 ⊢
        generalize M3.set be _ = M4 at g4 ⊢
        have e5 : rd w0 M4 ⟨p, 5, none⟩ = some (.map (some rj)) := rd_own (o := 5) g4.h.own1
        have e6 : rd w0 M4 ⟨p, 6, none⟩ = some (.map (some rr)) := rd_own (o := 6) g4.h.own1
        have e7 : rd w0 M4 ⟨be, 1, none⟩ = some (.int .i64 (a : Int)) := rd_own (o := 1) g4.own
        simp only [nc_v, ld_one cM1, ld_one cM2, ld_one W.c2, add_eq, Nat.zero_add, e5, e6, e7, ob_v, shI_v]
        rw [refs_lk g4.wr g4.mr g4.ok.ser hw]
        simp only [ob_v, shA_v, shCons_v, shI_v, shNil_v]
        rw [jobs_lk g4.wj g4.mj, findA_self g4.ok hw]
        simp only [Option.bind_some, hw, Option.map_some, Option.getD_some, vf1, ob_v, shP_v, nc_v]
        refine g4.job (o := 0) W.c3 (x' := w.z) hw rfl rfl rfl rfl (by decide) rfl rfl (by unfold JM.cells JM.z; rfl) (g4.ok.set hw rfl rfl rfl (fun _ => rfl) (.inl rfl)) fun M5 g5 => ?_
        rw [i64_succ (by omega)]
        refine ih (i + 1) (L'.set a w.z) M5 (by omega) (by omega) (by rw [List.length_set, hlen]) (fun b y hy => ?_) (fun b y e hy he hb => ?_) g5.drop
        · by_cases hba : b = a
          · subst hba
            rw [hLa] at hy; cases hy
            rw [List.getElem?_set_self (by rw [hlen]; exact hal), hwz]; exact .inr rfl
          · rw [List.getElem?_set_ne (Ne.symm hba)]; exact hrel b y hy
        · by_cases hba : b = a
          · subst hba
            rw [hLa] at hy; cases hy
            rw [List.getElem?_set_self (by rw [hlen]; exact hal), hwz]
          · rw [List.getElem?_set_ne (Ne.symm hba)]
            rw [List.take_add_one, ee] at he
            rcases List.mem_append.1 he with he | he
            · exact hdone b y e hy he hb
            · simp only [Option.toList_some, List.mem_singleton] at he
              subst he
              exact absurd (Int.ofNat.inj hb.symm) hba
      · have hin : i = (qE 1 (jobsOf L)).length := by omega
        subst hin
        rw [List.take_length] at hdone
        have ea : rd w0 M' ⟨p, 3, none⟩ = some (.pointer (some ⟨s0, 0, none⟩)) := rd_own (o := 3) g.h.own1
        have eb : rd w0 M' ⟨p, 4, none⟩ = some (.pointer (some ⟨s1, 0, none⟩)) := rd_own (o := 4) g.h.own1
        simp only [nc_v, ld_one W.c81, add_eq, Nat.zero_add, Nat.mul_one, Nat.add_zero, Nat.reduceAdd, Nat.reduceMul, Int.toNat_one, Int.toNat_zero, ea, eb, ob_v, shP_v]
        refine ⟨⟨by decide, by decide⟩, ⟨by decide, by decide⟩, ?_⟩
        obtain ⟨F3, hS3, hback3⟩ := g.setqE
        have hq0 : (qE 0 (jobsOf L)).length ≤ 1000 := by
          have := qE_len 0 (jobsOf L)
          simp only [jobsOf, List.length_map] at this ⊢; omega
        refine mJoinA_ok hS3.toA.rot (by omega) (fun hn => absurd (qE_disj _) hn) fun _ M3 h3 => ?_
        have g3 := hback3 M3 _ _ (SetH.ofA h3.rot)
        simp only [go_sem]
        refine resR g3.drop rfl fun M4 g4 => ?_
        have hfl : jobsOf (L'.map fun y => { y with j := { y.j with queue := 0 } }) = (jobsOf L).map fun j => { j with queue := 0 } := by
          unfold jobsOf
          refine List.ext_getElem? fun a => ?_
          rw [List.map_map, List.map_map, List.getElem?_map, List.getElem?_map]
          cases ha : L[a]? with
          | none =>
            rw [List.getElem?_eq_none (by rw [hlen]; exact List.getElem?_eq_none_iff.1 ha)]; rfl
          | some y =>
            rcases hrel a y ha with hy | hy <;> rw [hy] <;> rfl
        have hqi : QInv (jobsOf L) := fun j hj => by
          obtain ⟨y, hy, rfl⟩ := List.mem_map.1 hj
          exact h.ok.qj y hy
        obtain ⟨m1, m2⟩ := qE_merge hqi
        have ok4 : JOk (L'.map fun y => { y with j := { y.j with queue := 0 } }) := by
          refine ⟨fun a y hy => ?_, fun y hy hin => ?_, fun y hy => ?_, ?_⟩
          · rw [List.getElem?_map] at hy
            cases ha : L'[a]? with
            | none => rw [ha] at hy; cases hy
            | some w => rw [ha] at hy; cases hy; exact g4.ok.ser a w ha
          · obtain ⟨w, hw, rfl⟩ := List.mem_map.1 hy
            obtain ⟨a, ha⟩ := List.getElem?_of_mem hw
            have hal : a < L.length := by rw [← hlen]; exact (List.getElem?_eq_some_iff.1 ha).1
            have hLa := List.getElem?_eq_getElem hal
            generalize L[a] = v at hLa
            show w.q = 0
            have hwin : w.j.inn = true := hin
            rcases hrel a v hLa with hv | hv
            · rw [ha] at hv; cases hv
              rcases h.ok.qj w (List.mem_of_getElem? hLa) with hq | hq
              · rw [h.ok.q w (List.mem_of_getElem? hLa) hwin, hq]
              · have hm : (w.j.key, (a : Int)) ∈ qE 1 (jobsOf L) := (sortE_perm _).mem_iff.2 (inE_mem.2 ⟨a, w.j, jobsOf_get hLa, hwin, by simp [ofQ, hq], by rw [Nat.zero_add]⟩)
                have := hdone a w _ hLa hm rfl
                rw [ha] at this
                have hww : w = w.z := by injection this
                rw [hww]; rfl
            · rw [ha] at hv; cases hv; rfl
          · obtain ⟨w, hw, rfl⟩ := List.mem_map.1 hy
            exact .inl rfl
          · rw [List.map_map]; exact g4.ok.nod
        refine h1 M4 (L'.map fun y => { y with j := { y.j with queue := 0 } }) (by rw [List.length_map, hlen]) hfl ?_
        have g5 := g4.ghostAll (f := fun y => { y with j := { y.j with queue := 0 } }) (fun _ => rfl) (fun _ => rfl) (fun _ => rfl) (fun _ => rfl) (fun _ => rfl) ok4
        rw [hfl, ← m1, m2]
        exact g5
  exact ⟨_, key ((qE 1 (jobsOf L)).length + 1) 0 L M2 (by omega) (by omega) rfl (fun a y hy => .inl hy) (fun a y e _ he => by simp at he) g2⟩
end
end Go.Proofs.Ytedofpnjmnkedaa.HL
namespace Go.Proofs.Ytedofpnjmnkedaa.HL
open Go.RowKit (Below)
open Go.Proofs
theorem qE_put {l : List JobA} {j : JobA} (hin : j.inn = true) : qE j.queue (l ++ [j]) = ins (qE j.queue l) (j.key, (l.length : Int)) ∧ ∀ q, q ≠ j.queue → qE q (l ++ [j]) = qE q l := by
  refine ⟨?_, fun q hq => ?_⟩
  · unfold qE
    rw [inE_app, inE, if_pos (by simp [hin, ofQ]), inE, Nat.zero_add, sortE_app]
  · unfold qE
    rw [inE_app, inE, if_neg (by simp [ofQ, Ne.symm hq]), inE, List.append_nil]
theorem qE_fresh (q : Int) (l : List JobA) : fnd (qE q l) (l.length : Int) = none := fnd_no fun x hx hs => by
  obtain ⟨i, j, a1, a2, a3, rfl⟩ := inE_mem.1 ((sortE_perm _).mem_iff.1 hx)
  have := (List.getElem?_eq_some_iff.1 a1).1
  simp only at hs; omega
theorem allE_len {l : List JobA} (h : QInv l) : (allE l).length = (qE 0 l).length + (qE 1 l).length := by
  unfold allE qE
  rw [sortE_len, sortE_len, sortE_len, (inE_both 0 h).length_eq, List.length_append]
theorem JOk.inv {L : List JM} (h : JOk L) : QInv (jobsOf L) := fun j hj => by
  obtain ⟨y, hy, rfl⟩ := List.mem_map.1 hj
  exact h.qj y hy
theorem findA_no {L : List JM} {a g : Int} (h : findA (jobsOf L) a g = none) : ∀ x ∈ L, ¬ (x.j.at_ = a ∧ x.j.gen = g) := fun x hx hh => by
  unfold findA jobsOf at h
  have := List.findIdx?_eq_none_iff.1 h x.j (List.mem_map.2 ⟨x, hx, rfl⟩)
  simp [hh.1, hh.2] at this
section
variable {w0 : World} {F M : Mem} {R : VP}
theorem Holds.rowsApp {P1 P2 P3 P4 Q : Asn} {L : List JM} {x : JM} (h : Holds w0 F M (star P1 (star P2 (star P3 (star P4 (star (rowsA L) (star (row1 x.b x.cells tJ) Q))))))) : Holds w0 F M (star P1 (star P2 (star P3 (star P4 (star (rowsA (L ++ [x])) Q))))) := by
  obtain ⟨r, ⟨r1, q1, rfl, a1, r2, q2, rfl, a2, r3, q3, rfl, a3, r4, q4, rfl, a4, r5, q5, rfl, a5, r6, q6, rfl, a6, a7⟩, a8⟩ := h
  have e5 : r5 = _ := a5
  have e6 : r6 = _ := a6
  refine ⟨_, ⟨r1, _, rfl, a1, r2, _, rfl, a2, r3, _, rfl, a3, r4, _, rfl, a4, r5 ++ r6, q6, by simp, ?_, a7⟩, a8⟩
  rw [e5, e6]
  unfold rowsA
  rw [List.map_append]; rfl
end
section
variable {w0 : World} {F M : Mem} {R : VP} {p cb s0 s1 rj rr : Nat} {most bud now : Int} {L : List JM} {Q : Asn}
theorem Jschedule_ok (h : PlainM w0 F M p cb s0 s1 rj rr most bud now L (qE 0 (jobsOf L)) (qE 1 (jobsOf L)) Q) (hL : L.length ≤ 1000) {c : Cmd} {a g : Int} (hq : c.queue = 0 ∨ c.queue = 1)
    (h0 : most ≤ ((allE (jobsOf L)).length : Int) → ∀ M', PlainM w0 F M' p cb s0 s1 rj rr most bud now L (qE 0 (jobsOf L)) (qE 1 (jobsOf L)) Q → R (.tuple #[Rep.v { why := 13 }, .bool true]) M')
    (h1 : ¬ most ≤ ((allE (jobsOf L)).length : Int) → (g < 1 ∨ (findA (jobsOf L) a g).isSome = true) → ∀ M', PlainM w0 F M' p cb s0 s1 rj rr most bud now L (qE 0 (jobsOf L)) (qE 1 (jobsOf L)) Q → R (.tuple #[Rep.v {}, .bool false]) M')
    (h2 : ¬ most ≤ ((allE (jobsOf L)).length : Int) → ¬ (g < 1 ∨ (findA (jobsOf L) a g).isSome = true) → ∀ M' L', L'.length = L.length + 1 → jobsOf L' = jobsOf L ++ [⟨a, g, c.queue, c.data, c.time, true⟩] → PlainM w0 F M' p cb s0 s1 rj rr most bud now L' (qE 0 (jobsOf L')) (qE 1 (jobsOf L')) Q → R (.tuple #[Rep.v { at_ := a, gen := g, time := c.time, data := c.data }, .bool true]) M') :
    C PP w0 Id.jP_schedule #[.pointer (some ⟨p, 0, none⟩), c.v, .agg #[.int .i64 a, .int .i64 g]] R M := by
  apply jP_schedule.go
  intro pts H
  unfold jP_schedule.T
  intro b1 hb0 hbw
  have g1 := h.new hb0 hbw c.cells tCmd
  change PlainM w0 F (M.set b1 (.row [.int .i64 c.kind, .int .i64 c.queue, .int .i64 c.at_, .int .i64 c.gen, .int .i64 c.time, .int .i64 c.data] tCmd)) _ _ _ _ _ _ _ _ _ _ _ _ _ at g1
  generalize M.set b1 _ = M1 at g1 ⊢
  intro b3 hb3 hbw3
  have g2 := g1.new hb3 hbw3 [.int .i64 a, .int .i64 g] 25
  generalize M1.set b3 _ = M2 at g2 ⊢
  intro b5 hb5 hbw5
  have g3 := g2.new hb5 hbw5 [.int .i64 0, .int .i64 0, .int .i64 0, .int .i64 0, .int .i64 0, .int .i64 0] tRep
  generalize M2.set b5 _ = M3 at g3 ⊢
  have e3 : rd w0 M3 ⟨p, 3, none⟩ = some (.pointer (some ⟨s0, 0, none⟩)) := rd_own (o := 3) g3.h.own1
  have e4 : rd w0 M3 ⟨p, 4, none⟩ = some (.pointer (some ⟨s1, 0, none⟩)) := rd_own (o := 4) g3.h.own1
  have e0 : rd w0 M3 ⟨p, 0, none⟩ = some (.int .i64 most) := rd_own (o := 0) g3.h.own1
  have e6 : rd w0 M3 ⟨b3, 1, none⟩ = some (.int .i64 g) := rd_own (o := 1) g3.swap.own
  have e5 : rd w0 M3 ⟨p, 5, none⟩ = some (.map (some rj)) := rd_own (o := 5) g3.h.own1
  have l0 : (qE 0 (jobsOf L)).length ≤ 1000 := by
    have := qE_len 0 (jobsOf L)
    simp only [jobsOf, List.length_map] at this ⊢; omega
  have l1 : (qE 1 (jobsOf L)).length ≤ 1000 := by
    have := qE_len 1 (jobsOf L)
    simp only [jobsOf, List.length_map] at this ⊢; omega
  have hla : ((allE (jobsOf L)).length : Int) = ((qE 0 (jobsOf L)).length : Int) + ((qE 1 (jobsOf L)).length : Int) := by
    rw [allE_len h.ok.inv]; omega
  simp only [nc_v, ld_one W.c81, ld_one W.c3, add_eq, Nat.zero_add, Nat.add_zero, Nat.mul_one, Nat.reduceAdd, Nat.reduceMul, Int.toNat_one, Int.toNat_zero, e3, e4, e0, ob_v, shP_v, shI_v]
  refine ⟨⟨by decide, by decide⟩, ⟨by decide, by decide⟩, ?_⟩
  obtain ⟨F0, hS0, _⟩ := g3.setq (.inl rfl)
  obtain ⟨F1, hS1, _⟩ := g3.setq (.inr rfl)
  refine mLen_ok hS0 ?_
  rw [shI_v]
  refine ⟨e4, e0, ?_⟩
  refine mLen_ok hS1 ?_
  rw [shI_v]
  refine ⟨e0, ?_⟩
  rw [bs_decide, show w64 ((((if (0 : Int) = 0 then qE 0 (jobsOf L) else qE 1 (jobsOf L)).length : Nat) : Int) + (((if (1 : Int) = 0 then qE 0 (jobsOf L) else qE 1 (jobsOf L)).length : Nat) : Int)) = ((allE (jobsOf L)).length : Int) from by
    rw [hla, if_pos rfl, if_neg (by decide)]
    exact w64_in (by omega)]
  split
  · rename_i hc
    simp only [go_sem]
    refine resR (K := fun v M => R (.tuple #[v, .bool true]) M) g3 rfl fun M4 g4 => ?_
    exact h0 hc M4 g4.drop.drop
  · rename_i hc
    have hc' : ¬ most ≤ ((allE (jobsOf L)).length : Int) := hc
    simp only [ld_one W.c3, e6, ob_v, shI_v]
    rw [bs_decide]
    split
    · rename_i hg
      simp only [go_sem]
      refine resR (K := fun v M => R (.tuple #[v, .bool false]) M) g3 rfl fun M4 g4 => ?_
      exact h1 hc' (.inl hg) M4 g4.drop.drop
    · rename_i hg
      have ldr : ∀ {M' : Mem}, Own w0 M' b3 [.int .i64 a, .int .i64 g] 25 → (std PP w0).ld 25 ⟨b3, 0, none⟩ M' = some (.agg #[.int .i64 a, .int .i64 g]) := fun o => ld_agg (cs := [.int .i64 a, .int .i64 g]) W.g25 (fun j v hj => by rw [add_eq, rd_own o, Nat.zero_add]; exact hj)
      simp only [nc_v, ld_one cM1, add_eq, Nat.zero_add, e5, ldr g3.swap.own, ob_v, shA_v, shCons_v, shI_v, shNil_v]
      rw [jobs_lk g3.wj g3.mj]
      cases hf : findA (jobsOf L) a g with
      | some i =>
        have hi : i < L.length := by
          have := (List.findIdx?_eq_some_iff_getElem.1 hf).1
          simpa [jobsOf] using this
        have hx := List.getElem?_eq_getElem hi
        generalize L[i] = x at hx
        simp only [Option.bind_some, hx, Option.map_some, Option.getD_some, vf1, go_sem, Option.isNone_some, Bool.not_false, bs_true]
        refine resR (K := fun v M => R (.tuple #[v, .bool false]) M) g3 rfl fun M4 g4 => ?_
        exact h1 hc' (.inr (by rw [hf]; rfl)) M4 g4.drop.drop
      | none =>
        simp only [Option.bind_none, Option.map_none, Option.getD_none, go_sem, Option.isNone_none, Bool.not_true, bs_false]
        rw [H.J1]
        unfold jP_schedule.J1.T
        have ec1 : rd w0 M3 ⟨b1, 1, none⟩ = some (.int .i64 c.queue) := rd_own (o := 1) g3.drop.swap.own
        have ec5 : rd w0 M3 ⟨b1, 5, none⟩ = some (.int .i64 c.data) := rd_own (o := 5) g3.drop.swap.own
        have e7 : rd w0 M3 ⟨p, 7, none⟩ = some (.int .i64 (L.length : Int)) := rd_own (o := 7) g3.h.own1
        have hbld : ∀ n : Int, (std PP w0).bld tJ [(0, .int .i64 c.queue), (1, .int .i64 n), (2, .int .i64 c.data)] = some (.agg #[.int .i64 c.queue, .int .i64 n, .int .i64 c.data, .bool false]) := fun n => by kernel_rfl
        simp only [nc_v, ld_one W.c3, ld_one W.c2, add_eq, Nat.zero_add, ec1, ec5, e7, ob_v, shI_v, hbld, shA_v, shCons_v, shB_v, shNil_v]
        intro bj hbj hbjw
        have g4 := g3.new hbj hbjw [.int .i64 c.queue, .int .i64 (L.length : Int), .int .i64 c.data, .bool false] tJ
        generalize M3.set bj _ = M4 at g4 ⊢
        have e7' : rd w0 M4 ⟨p, 7, none⟩ = some (.int .i64 (L.length : Int)) := rd_own (o := 7) g4.h.own1
        simp only [nc_v, ld_one W.c2, add_eq, Nat.zero_add, e7', ob_v, shI_v]
        rw [i64_succ (by omega)]
        refine st_one W.c2 g4.h.own1 (by simp [prow]) rfl rfl ?_
        have hset : (prow most bud cb s0 s1 rj rr L.length).set 7 (.int .i64 ((L.length + 1 : Nat) : Int)) = prow most bud cb s0 s1 rj rr (L.length + 1) := rfl
        rw [hset]
        have hH := g4.h.upd1 (cs' := prow most bud cb s0 s1 rj rr (L.length + 1)) (e' := tP)
        have hop := g4.h.own1.2
        have n1 : rj ≠ p := fun x => by rw [← x, g4.mj] at hop; cases hop
        have n2 : rr ≠ p := fun x => by rw [← x, g4.mr] at hop; cases hop
        have mj5 : (M4.set p (.row (prow most bud cb s0 s1 rj rr (L.length + 1)) tP)) rj = some (.obj (mapObj kf1 vf1 L)) := by rw [Mem.set_ne _ _ n1]; exact g4.mj
        have mr5 : (M4.set p (.row (prow most bud cb s0 s1 rj rr (L.length + 1)) tP)) rr = some (.obj (mapObj kf2 vf2 L)) := by rw [Mem.set_ne _ _ n2]; exact g4.mr
        generalize M4.set p _ = M5 at hH mj5 mr5 ⊢
        have f5 : rd w0 M5 ⟨p, 5, none⟩ = some (.map (some rj)) := rd_own (o := 5) hH.own1
        have f6 : rd w0 M5 ⟨p, 6, none⟩ = some (.map (some rr)) := rd_own (o := 6) hH.own1
        have f1 : rd w0 M5 ⟨bj, 1, none⟩ = some (.int .i64 (L.length : Int)) := rd_own (o := 1) hH.right.right.right.right.right.own1
        have fr := hH.right.right.right.right.right.right.right.own1
        simp only [nc_v, ld_one cM1, ld_one cM2, ld_one W.c2, add_eq, Nat.zero_add, f5, f6, f1, ldr fr, ob_v, shA_v, shCons_v, shI_v, shNil_v]
        obtain ⟨i1, hi1, hz1, _⟩ := W.e126
        obtain ⟨i2, hi2, hz2, _⟩ := W.e25
        have hfk := key_struct (P := PP) (w0 := w0) (M := M5) (kf := kf1) (vf := vf1) (l := L) Try.underlying25 fun x _ => ref_eq a g x.j.at_ x.j.gen
        rw [findA_L, hf, Option.bind_none] at hfk
        refine men_ok (kf := kf1) (vf := vf1) (l := L) Try.underlying84 hi1 hz1 g4.wj mj5 (fun b => ref_key a g b) hfk ?_
        have hH6 := hH.obj_set (o' := .map ((entsF kf1 vf1 0 L).toArray.push ⟨refV a g, .pointer none, L.length⟩) (L.length + 1)) mj5 g4.fj
        have mr6 : (M5.set rj (.obj (.map ((entsF kf1 vf1 0 L).toArray.push ⟨refV a g, .pointer none, L.length⟩) (L.length + 1)))) rr = some (.obj (mapObj kf2 vf2 L)) := by rw [Mem.set_ne _ _ (Ne.symm g4.ne)]; exact mr5
        have mj6 := Mem.set_same M5 rj (.obj (.map ((entsF kf1 vf1 0 L).toArray.push ⟨refV a g, .pointer none, L.length⟩) (L.length + 1)))
        generalize M5.set rj _ = M6 at hH6 mr6 mj6 ⊢
        refine ⟨ldr hH6.right.right.right.right.right.right.right.own1, ?_⟩
        refine mes_ok (kf := kf1) (vf := vf1) (l := L) g4.wj mj6 ?_
        have hH7 := hH6.obj_set (o' := .map ((entsF kf1 vf1 0 L).toArray.push ⟨refV a g, .pointer (some ⟨bj, 0, none⟩), L.length⟩) (L.length + 1)) mj6 g4.fj
        have mr7 : (M6.set rj (.obj (.map ((entsF kf1 vf1 0 L).toArray.push ⟨refV a g, .pointer (some ⟨bj, 0, none⟩), L.length⟩) (L.length + 1)))) rr = some (.obj (mapObj kf2 vf2 L)) := by rw [Mem.set_ne _ _ (Ne.symm g4.ne)]; exact mr6
        have mj7 := Mem.set_same M6 rj (.obj (.map ((entsF kf1 vf1 0 L).toArray.push ⟨refV a g, .pointer (some ⟨bj, 0, none⟩), L.length⟩) (L.length + 1)))
        generalize M6.set rj _ = M7 at hH7 mr7 mj7 ⊢
        refine ⟨ldr hH7.right.right.right.right.right.right.right.own1, ?_⟩
        have hfk2 : ∃ q, peek PP w0 M7 (Instr.findKey 2 (.int .i64 (L.length : Int)) (entsF kf2 vf2 0 L)) = some q ∧ q.map (·.2) = (none : Option JM).map vf2 := by
          obtain ⟨q, k1, k2⟩ := key_int (P := PP) (w0 := w0) (M := M7) (kf := JM.ser) (vf := vf2) (l := L) (k := (L.length : Int)) Try.underlying2
          refine ⟨q, k1, ?_⟩
          rw [k2, List.find?_eq_none.2 fun y hy => by
            obtain ⟨i, hi⟩ := List.getElem?_of_mem hy
            have h1 := h.ok.ser i y hi
            have h2 := (List.getElem?_eq_some_iff.1 hi).1
            simp only [beq_iff_eq]; omega]
        refine men_ok (kf := kf2) (vf := vf2) (l := L) Try.underlying85 hi2 hz2 g4.wr mr7 (fun b => ser_key _ b) hfk2 ?_
        have hH8 := hH7.obj_set (o' := .map ((entsF kf2 vf2 0 L).toArray.push ⟨.int .i64 (L.length : Int), .agg #[.int .i64 0, .int .i64 0], L.length⟩) (L.length + 1)) mr7 g4.fr
        have mj8 := (Mem.set_ne M7 (.obj (.map ((entsF kf2 vf2 0 L).toArray.push ⟨.int .i64 (L.length : Int), .agg #[.int .i64 0, .int .i64 0], L.length⟩) (L.length + 1))) g4.ne).trans mj7
        have mr8 := Mem.set_same M7 rr (.obj (.map ((entsF kf2 vf2 0 L).toArray.push ⟨.int .i64 (L.length : Int), .agg #[.int .i64 0, .int .i64 0], L.length⟩) (L.length + 1)))
        generalize M7.set rr _ = M8 at hH8 mr8 mj8 ⊢
        refine ⟨ldr hH8.right.right.right.right.right.right.right.own1, ?_⟩
        refine mes_ok (kf := kf2) (vf := vf2) (l := L) g4.wr mr8 ?_
        have hH9 := hH8.obj_set (o' := .map ((entsF kf2 vf2 0 L).toArray.push ⟨.int .i64 (L.length : Int), .agg #[.int .i64 a, .int .i64 g], L.length⟩) (L.length + 1)) mr8 g4.fr
        have mj9 := (Mem.set_ne M8 (.obj (.map ((entsF kf2 vf2 0 L).toArray.push ⟨.int .i64 (L.length : Int), .agg #[.int .i64 a, .int .i64 g], L.length⟩) (L.length + 1))) g4.ne).trans mj8
        have mr9 := Mem.set_same M8 rr (.obj (.map ((entsF kf2 vf2 0 L).toArray.push ⟨.int .i64 (L.length : Int), .agg #[.int .i64 a, .int .i64 g], L.length⟩) (L.length + 1)))
        generalize M8.set rr _ = M9 at hH9 mr9 mj9 ⊢
        have okN : JOk (L ++ [(⟨⟨a, g, c.queue, c.data, c.time, true⟩, bj, c.queue, (L.length : Int)⟩ : JM)]) := by
          refine ⟨fun i y hy => ?_, fun y hy => ?_, fun y hy => ?_, ?_⟩
          · by_cases hi : i < L.length
            · rw [List.getElem?_append_left hi] at hy
              exact h.ok.ser i y hy
            · rw [List.getElem?_append_right (by omega)] at hy
              have hii : i = L.length := by
                have := (List.getElem?_eq_some_iff.1 hy).1
                simp at this; omega
              subst hii
              simp at hy; subst hy; rfl
          · rcases List.mem_append.1 hy with hy | hy
            · exact h.ok.q y hy
            · simp at hy; subst hy; intro _; rfl
          · rcases List.mem_append.1 hy with hy | hy
            · exact h.ok.qj y hy
            · simp at hy; subst hy; exact hq
          · rw [List.map_append]
            refine List.nodup_append.2 ⟨h.ok.nod, by simp, fun y hy z hz hyz => ?_⟩
            simp at hz
            obtain ⟨v, hv, rfl⟩ := List.mem_map.1 hy
            subst hyz
            simp only [Prod.mk.injEq] at hz
            exact findA_no hf v hv hz
        generalize hxx : (⟨⟨a, g, c.queue, c.data, c.time, true⟩, bj, c.queue, (L.length : Int)⟩ : JM) = x at okN
        have hxb : x.b = bj := by rw [← hxx]
        have hxc : x.cells = [.int .i64 c.queue, .int .i64 (L.length : Int), .int .i64 c.data, .bool false] := by rw [← hxx]; rfl
        have hxj : x.j = ⟨a, g, c.queue, c.data, c.time, true⟩ := by rw [← hxx]
        have hxk1 : kf1 x = .agg #[.int .i64 a, .int .i64 g] := by rw [← hxx]; rfl
        have hxv1 : vf1 x = .pointer (some ⟨bj, 0, none⟩) := by rw [← hxx]; rfl
        have hxk2 : kf2 x = .int .i64 (L.length : Int) := by rw [← hxx]; rfl
        have hxv2 : vf2 x = .agg #[.int .i64 a, .int .i64 g] := by rw [← hxx]; rfl
        have g5 : PlainM w0 F M9 p cb s0 s1 rj rr most bud now (L ++ [x]) (qE 0 (jobsOf L)) (qE 1 (jobsOf L)) (star (row1 b5 [.int .i64 0, .int .i64 0, .int .i64 0, .int .i64 0, .int .i64 0, .int .i64 0] tRep) (star (row1 b3 [.int .i64 a, .int .i64 g] 25) (star (row1 b1 [.int .i64 c.kind, .int .i64 c.queue, .int .i64 c.at_, .int .i64 c.gen, .int .i64 c.time, .int .i64 c.data] tCmd) Q))) := by
          refine ⟨g4.fj, g4.fr, g4.ne, g4.wj, g4.wr, ?_, ?_, ?_, okN⟩
          · rw [mapObj_app, hxk1, hxv1]; exact mj9
          · rw [mapObj_app, hxk2, hxv2]; exact mr9
          · rw [← hxb, ← hxc] at hH9
            rw [List.length_append, List.length_singleton]
            exact hH9.rowsApp
        have hj : jobsOf (L ++ [x]) = jobsOf L ++ [x.j] := by unfold jobsOf; rw [List.map_append]; rfl
        have hjl : (jobsOf L).length = L.length := by simp [jobsOf]
        have hxq : x.j.queue = c.queue := by rw [hxj]
        have hxi : x.j.inn = true := by rw [hxj]
        have hxk : x.j.key = c.time := by rw [hxj]
        have hmx : x ∈ L ++ [x] := by simp
        have ox := g5.h.ju5.jobOwn hmx
        have d1 : rd w0 M9 ⟨b1, 1, none⟩ = some (.int .i64 c.queue) := rd_own (o := 1) g5.drop.swap.own
        have d4 : rd w0 M9 ⟨b1, 4, none⟩ = some (.int .i64 c.time) := rd_own (o := 4) g5.drop.swap.own
        have d2 : rd w0 M9 ⟨bj, 1, none⟩ = some (.int .i64 (L.length : Int)) := by rw [← hxb]; rw [hxc] at ox; exact rd_own (o := 1) ox
        have hq2 : 0 ≤ c.queue ∧ c.queue < ((2 : Nat) : Int) := by omega
        have hb2 : ∀ n : Int, (std PP w0).bld 64 [(0, .int .i64 c.time), (1, .int .i64 n)] = some (.agg #[.int .i64 c.time, .int .i64 n]) := fun n => by kernel_rfl
        simp only [nc_v, ld_one W.c3, ld_one W.c2, ld_one W.c81, add_eq, Nat.zero_add, Nat.mul_one, d1, d4, d2, g5.cell hq, ob_v, shI_v, shP_v, hb2, shA_v, shCons_v, shNil_v]
        refine ⟨hq2, ?_⟩
        obtain ⟨F2, hS2, hback⟩ := g5.setq hq
        have hqe : (if c.queue = 0 then qE 0 (jobsOf L) else qE 1 (jobsOf L)) = qE x.j.queue (jobsOf L) := by
          rw [hxq]
          rcases hq with e | e <;> rw [e] <;> rfl
        rw [hqe] at hS2
        have hqlen : (qE x.j.queue (jobsOf L)).length ≤ 10000 := by
          have := qE_len x.j.queue (jobsOf L)
          omega
        have hfr : fnd (qE x.j.queue (jobsOf L)) (L.length : Int) = none := by rw [← hjl]; exact qE_fresh _ _
        refine mInsert_ok (e := (c.time, (L.length : Int))) hS2 hqlen (fun i hi => by rw [hfr] at hi; cases hi) fun _ M10 h10 => ?_
        obtain ⟨k1, k3⟩ := qE_put (l := jobsOf L) hxi
        rw [hxk, hjl] at k1
        rw [← k1] at h10
        have g6 := hback M10 _ h10
        have g7 : PlainM w0 F M10 p cb s0 s1 rj rr most bud now (L ++ [x]) (qE 0 (jobsOf (L ++ [x]))) (qE 1 (jobsOf (L ++ [x]))) (star (row1 b5 [.int .i64 0, .int .i64 0, .int .i64 0, .int .i64 0, .int .i64 0, .int .i64 0] tRep) (star (row1 b3 [.int .i64 a, .int .i64 g] 25) (star (row1 b1 [.int .i64 c.kind, .int .i64 c.queue, .int .i64 c.at_, .int .i64 c.gen, .int .i64 c.time, .int .i64 c.data] tCmd) Q))) := by
          rw [hj]
          rcases hq with e | e
          · rw [if_pos e, if_pos e, congrArg (fun q => qE q (jobsOf L ++ [x.j])) (hxq.trans e)] at g6
            rw [k3 1 (by omega)]
            exact g6
          · rw [if_neg (by omega), if_neg (by omega), congrArg (fun q => qE q (jobsOf L ++ [x.j])) (hxq.trans e)] at g6
            rw [k3 0 (by omega)]
            exact g6
        have d4' : rd w0 M10 ⟨b1, 4, none⟩ = some (.int .i64 c.time) := rd_own (o := 4) g7.drop.swap.own
        simp only [shB_v, d4', ob_v, shI_v]
        rw [← hxb]
        refine told_ok (x := x) (g7.h.ju5.jobOwn hmx) fun M11 l11 => ?_
        simp only [shA_v, shCons_v, shI_v, shNil_v]
        intro bo hbo hbow
        have g9 := (g7.le l11).new hbo hbow [.int .i64 0, .int .i64 0, .int .i64 0, .int .i64 0, .int .i64 0, .int .i64 0] tRep
        generalize M11.set bo _ = M12 at g9 ⊢
        refine st_agg (vs := [.int .i64 0, .int .i64 0, .int .i64 0, .int .i64 c.time, .int .i64 x.j.data, .int .i64 0]) W.g32 g9.own (by simp) (by intro v hv; simp only [List.mem_cons, List.not_mem_nil, or_false] at hv; rcases hv with rfl | rfl | rfl | rfl | rfl | rfl <;> rfl) ?_
        have g10 := g9.upd (cs' := over [.int .i64 0, .int .i64 0, .int .i64 0, .int .i64 0, .int .i64 0, .int .i64 0] 0 [.int .i64 0, .int .i64 0, .int .i64 0, .int .i64 c.time, .int .i64 x.j.data, .int .i64 0]) (e' := tRep)
        have hov3 : over [.int .i64 0, .int .i64 0, .int .i64 0, .int .i64 0, .int .i64 0, .int .i64 0] 0 [.int .i64 0, .int .i64 0, .int .i64 0, .int .i64 c.time, .int .i64 x.j.data, .int .i64 0] = [Value.int .i64 0, .int .i64 0, .int .i64 0, .int .i64 c.time, .int .i64 x.j.data, .int .i64 0] := rfl
        rw [hov3] at g10 ⊢
        generalize M12.set bo _ = M13 at g10 ⊢
        rw [ldr g10.drop.swap.own]
        simp only [ob_v, shA_v, shCons_v, shI_v, shNil_v]
        refine st_agg (vs := [.int .i64 a, .int .i64 g]) W.g25 g10.own (by simp) (by intro v hv; simp only [List.mem_cons, List.not_mem_nil, or_false] at hv; rcases hv with rfl | rfl <;> rfl) ?_
        have g11 := g10.upd (cs' := over [.int .i64 0, .int .i64 0, .int .i64 0, .int .i64 c.time, .int .i64 x.j.data, .int .i64 0] 1 [.int .i64 a, .int .i64 g]) (e' := tRep)
        have hov4 : over [.int .i64 0, .int .i64 0, .int .i64 0, .int .i64 c.time, .int .i64 x.j.data, .int .i64 0] 1 [.int .i64 a, .int .i64 g] = [Value.int .i64 0, .int .i64 a, .int .i64 g, .int .i64 c.time, .int .i64 x.j.data, .int .i64 0] := rfl
        rw [hov4] at g11 ⊢
        generalize M13.set bo _ = M14 at g11 ⊢
        have o11 := g11.own
        rw [ld_agg (cs := [.int .i64 0, .int .i64 a, .int .i64 g, .int .i64 c.time, .int .i64 x.j.data, .int .i64 0]) W.g32 (fun j v hj => by rw [add_eq, rd_own o11, Nat.zero_add]; exact hj)]
        simp only [ob_v, shA_v, shCons_v, shI_v, shNil_v]
        refine resR (K := fun v M => R (.tuple #[v, .bool true]) M) g11.drop rfl fun M15 g12 => ?_
        have hxd : x.j.data = c.data := by rw [hxj]
        rw [hxd]
        refine h2 hc' (fun hh => ?_) M15 (L ++ [x]) (by simp) (by rw [hj, hxj]) g12.drop.drop
        rcases hh with hh | hh
        · exact hg hh
        · rw [hf] at hh; cases hh
end
end Go.Proofs.Ytedofpnjmnkedaa.HL
namespace Go.Proofs.Ytedofpnjmnkedaa.HL
open Go.RowKit (Below)
open Go.Proofs
def badQ (c : Cmd) : Prop := (c.kind = 1 ∨ c.kind = 5 ∨ c.kind = 6 ∨ c.kind = 7) ∧ (c.queue < 0 ∨ 2 ≤ c.queue)
section
variable {jobs : Int} {st : St} {c : Cmd} {was : Rep}
theorem stepA_bad (h : badQ c) : stepA jobs st c was = some (st, { why := 1 }) := by
  unfold badQ at h; unfold stepA; rw [if_pos h]
theorem stepA_1 (h : ¬ badQ c) (k : c.kind = 1) : stepA jobs st c was = if jobs ≤ ((allE st.l).length : Int) then some (st, { why := 13 })
    else if was.gen < 1 ∨ (findA st.l was.at_ was.gen).isSome = true then none
    else some (⟨st.now, st.l ++ [⟨was.at_, was.gen, c.queue, c.data, c.time, true⟩]⟩, { at_ := was.at_, gen := was.gen, time := c.time, data := c.data }) := by
  unfold badQ at h; unfold stepA; rw [if_neg h, if_pos k]
theorem stepA_23 (k : c.kind = 2 ∨ c.kind = 3) : stepA jobs st c was = match findA st.l c.at_ c.gen with
    | none => some (st, { why := 22 })
    | some i => match st.l[i]? with
      | none => none
      | some j =>
        if j.inn = false then some (st, { why := 23 })
        else if c.kind = 3 then some (⟨st.now, st.l.set i { j with inn := false }⟩, { time := j.key, data := j.data })
        else if j.key < c.time then some (st, { why := 26 })
        else some (⟨st.now, st.l.set i { j with key := c.time }⟩, { time := c.time, data := j.data }) := by
  unfold stepA; rw [if_neg (fun h => by omega), if_neg (by omega), if_pos k] <;> rfl
theorem stepA_4 (k : c.kind = 4) : stepA jobs st c was = if c.time < 0 then some (st, { why := 1 }) else some (⟨addc st.now c.time, st.l⟩, { time := addc st.now c.time }) := by
  unfold stepA; rw [if_neg (fun h => by omega), if_neg (by omega), if_neg (by omega), if_pos k]
theorem stepA_5 (h : ¬ badQ c) (k : c.kind = 5) : stepA jobs st c was = match (qE c.queue st.l).head? with
    | none => some (st, { why := 28 })
    | some e => if st.now < e.1 then some (st, { why := 28 }) else
      match st.l[e.2.toNat]? with
      | none => none
      | some j => some (⟨st.now, st.l.set e.2.toNat { j with inn := false }⟩, { at_ := j.at_, gen := j.gen, time := e.1, data := j.data }) := by
  unfold badQ at h; unfold stepA; rw [if_neg h, if_neg (by omega), if_neg (by omega), if_neg (by omega), if_pos k] <;> rfl
theorem stepA_6 (h : ¬ badQ c) (k : c.kind = 6) : stepA jobs st c was = if c.queue = 0 then some (st, { why := 25 })
    else some (⟨st.now, st.l.map fun j => { j with queue := 0 }⟩, { n := ((qE 1 st.l).length : Int) }) := by
  unfold badQ at h; unfold stepA; rw [if_neg h, if_neg (by omega), if_neg (by omega), if_neg (by omega), if_neg (by omega), if_pos k]
theorem stepA_7 (h : ¬ badQ c) (k : c.kind = 7) : stepA jobs st c was = some (st, { n := ((qE c.queue st.l).length : Int) }) := by
  unfold badQ at h; unfold stepA; rw [if_neg h, if_neg (by omega), if_neg (by omega), if_neg (by omega), if_neg (by omega), if_neg (by omega), if_pos k]
theorem stepA_8 (k : c.kind < 1 ∨ 7 < c.kind) : stepA jobs st c was = some (st, { why := 12 }) := by
  unfold stepA; rw [if_neg (fun h => by omega), if_neg (by omega), if_neg (by omega), if_neg (by omega), if_neg (by omega), if_neg (by omega), if_neg (by omega)]
end
section
variable {w0 : World} {F M : Mem} {R : VP} {p cb s0 s1 rj rr : Nat} {most bud now : Int} {L : List JM} {Q : Asn}
theorem jobsOf_some {L : List JM} {i : Nat} {x : JM} (hx : L[i]? = some x) : (jobsOf L)[i]? = some x.j := by
  unfold jobsOf; rw [List.getElem?_map, hx]; rfl
theorem Jmust_ok (h : PlainM w0 F M p cb s0 s1 rj rr most bud now L (qE 0 (jobsOf L)) (qE 1 (jobsOf L)) Q) (hL : L.length ≤ 1000) {c : Cmd} {was : Rep} (hn : In64 now) (hct : In64 c.time)
    (h0 : stepA most ⟨now, jobsOf L⟩ c was = none → ∀ M', PlainM w0 F M' p cb s0 s1 rj rr most bud now L (qE 0 (jobsOf L)) (qE 1 (jobsOf L)) Q → R (.tuple #[Rep.v {}, .bool false]) M')
    (h1 : ∀ now' L' r, L'.length ≤ L.length + 1 → stepA most ⟨now, jobsOf L⟩ c was = some (⟨now', jobsOf L'⟩, r) → ∀ M', PlainM w0 F M' p cb s0 s1 rj rr most bud now' L' (qE 0 (jobsOf L')) (qE 1 (jobsOf L')) Q → R (.tuple #[r.v, .bool true]) M') :
    C PP w0 Id.jP_must #[.pointer (some ⟨p, 0, none⟩), c.v, was.v] R M := by
  apply jP_must.go
  intro pts H
  unfold jP_must.T
  intro b1 hb0 hbw
  have g1 := h.new hb0 hbw c.cells tCmd
  change PlainM w0 F (M.set b1 (.row [.int .i64 c.kind, .int .i64 c.queue, .int .i64 c.at_, .int .i64 c.gen, .int .i64 c.time, .int .i64 c.data] tCmd)) _ _ _ _ _ _ _ _ _ _ _ _ _ at g1
  generalize M.set b1 _ = M1 at g1 ⊢
  intro b3 hb3 hbw3
  have g2 := g1.new hb3 hbw3 was.cells tRep
  change PlainM w0 F (M1.set b3 (.row [.int .i64 was.why, .int .i64 was.at_, .int .i64 was.gen, .int .i64 was.time, .int .i64 was.data, .int .i64 was.n] tRep)) _ _ _ _ _ _ _ _ _ _ _ _ _ at g2
  generalize M1.set b3 _ = M2 at g2 ⊢
  intro b5 hb5 hbw5
  have g3 := g2.new hb5 hbw5 [.int .i64 0, .int .i64 0, .int .i64 0, .int .i64 0, .int .i64 0, .int .i64 0] tRep
  generalize M2.set b5 _ = M3 at g3 ⊢
  have oc := g3.drop.swap.own
  have ow := g3.swap.own
  have e0 : rd w0 M3 ⟨b1, 0, none⟩ = some (.int .i64 c.kind) := rd_own (o := 0) oc
  have e1 : rd w0 M3 ⟨b1, 1, none⟩ = some (.int .i64 c.queue) := rd_own (o := 1) oc
  have e4 : rd w0 M3 ⟨b1, 4, none⟩ = some (.int .i64 c.time) := rd_own (o := 4) oc
  have ldc : (std PP w0).ld tCmd ⟨b1, 0, none⟩ M3 = some (.agg #[.int .i64 c.kind, .int .i64 c.queue, .int .i64 c.at_, .int .i64 c.gen, .int .i64 c.time, .int .i64 c.data]) := ld_agg (cs := c.cells) W.g27 (fun j v hj => by rw [add_eq, rd_own oc, Nat.zero_add]; exact hj)
  have ldr : (std PP w0).ld 25 ⟨b3, 1, none⟩ M3 = some (.agg #[.int .i64 was.at_, .int .i64 was.gen]) := ld_agg (cs := [.int .i64 was.at_, .int .i64 was.gen]) W.g25 (fun j v hj => by
    rw [add_eq, rd_own ow]
    match j, hj with
    | 0, hj => exact hj
    | 1, hj => exact hj)
  have ldk : (std PP w0).ld 25 ⟨b1, 2, none⟩ M3 = some (.agg #[.int .i64 c.at_, .int .i64 c.gen]) := ld_agg (cs := [.int .i64 c.at_, .int .i64 c.gen]) W.g25 (fun j v hj => by
    rw [add_eq, rd_own oc]
    match j, hj with
    | 0, hj => exact hj
    | 1, hj => exact hj)
  have fin : ∀ (M4 : Mem) (L' : List JM) (now' : Int) (r : Rep), L'.length ≤ L.length + 1 → stepA most ⟨now, jobsOf L⟩ c was = some (⟨now', jobsOf L'⟩, r) →
      PlainM w0 F M4 p cb s0 s1 rj rr most bud now' L' (qE 0 (jobsOf L')) (qE 1 (jobsOf L')) (star (row1 b5 [.int .i64 0, .int .i64 0, .int .i64 0, .int .i64 0, .int .i64 0, .int .i64 0] tRep) (star (row1 b3 [.int .i64 was.why, .int .i64 was.at_, .int .i64 was.gen, .int .i64 was.time, .int .i64 was.data, .int .i64 was.n] tRep) (star (row1 b1 [.int .i64 c.kind, .int .i64 c.queue, .int .i64 c.at_, .int .i64 c.gen, .int .i64 c.time, .int .i64 c.data] tCmd) Q))) →
      (std PP w0).st tRep ⟨b5, 0, none⟩ (.agg #[.int .i64 r.why, .int .i64 r.at_, .int .i64 r.gen, .int .i64 r.time, .int .i64 r.data, .int .i64 r.n]) (fun M14 => ob ((std PP w0).rdv tRep (.pointer (some ⟨b5, 0, none⟩)) M14) fun v15 => R (.tuple #[v15, .bool true]) M14) M4 :=
    fun M4 L' now' r h2 h3 g4 => resR (K := fun v M => R (.tuple #[v, .bool true]) M) g4 rfl fun M5 g5 => h1 now' L' r h2 h3 M5 g5.drop.drop
  have same := fun (r : Rep) (hs : stepA most ⟨now, jobsOf L⟩ c was = some (⟨now, jobsOf L⟩, r)) (M4 : Mem) g4 => fin M4 L now r (Nat.le_succ _) hs g4
  have keyJ1 : ¬ badQ c → jP_must.J1 pts (some ⟨p, 0, none⟩) ⟨b1, 0, none⟩ ⟨b3, 0, none⟩ ⟨b5, 0, none⟩ M3 := by
    intro hb
    rw [H.J1]
    unfold jP_must.J1.T
    simp only [ld_one W.c3, ld_one W.c2, add_eq, Nat.zero_add, Nat.reduceAdd, e0, e1, e4, ldc, ldr, ldk, nc_v, ob_v, shI_v, shA_v, shCons_v, shNil_v]
    rw [bs_beq]
    split
    · rename_i k
      have hq : c.queue = 0 ∨ c.queue = 1 := by unfold badQ at hb; omega
      have hs := stepA_1 (jobs := most) (st := ⟨now, jobsOf L⟩) (was := was) hb k
      refine Jschedule_ok g3 hL hq (fun k1 M4 g4 => ?_) (fun k1 k2 M4 g4 => ?_) fun k1 k2 M4 L' k3 k4 g4 => ?_
      · rw [if_pos k1] at hs
        simp only [Rep.v, shT_v, shCons_v, shA_v, shI_v, shB_v, shNil_v]
        exact same _ hs M4 g4
      · rw [if_neg k1, if_pos k2] at hs
        simp only [Rep.v, shT_v, shCons_v, shA_v, shI_v, shB_v, shNil_v]
        exact resR (K := fun v M => R (.tuple #[v, .bool false]) M) g4 rfl fun M5 g5 => h0 hs M5 g5.drop.drop
      · rw [if_neg k1, if_neg k2] at hs
        simp only [Rep.v, shT_v, shCons_v, shA_v, shI_v, shB_v, shNil_v]
        exact fin M4 L' now { at_ := was.at_, gen := was.gen, time := c.time, data := c.data } (by omega) (by rw [hs, k4]) g4
    · rename_i k1
      rw [bs_beq]
      split
      · rename_i k
        have hs := stepA_23 (jobs := most) (st := ⟨now, jobsOf L⟩) (was := was) (.inl k)
        refine Jsooner_ok (c := c) g3 hL (fun hf M4 g4 => ?_) (fun i x hf hx hin M4 g4 => ?_) (fun i x hf hx hin hk M4 g4 => ?_) fun i x hf hx hin hk M4 L' hl hj g4 => ?_
        · simp only [hf] at hs
          simp only [Rep.v, shT_v, shCons_v, shA_v, shI_v, shB_v, shNil_v]
          exact same _ hs M4 g4
        · simp only [hf, jobsOf_some hx, if_pos hin] at hs
          simp only [Rep.v, shT_v, shCons_v, shA_v, shI_v, shB_v, shNil_v]
          exact same _ hs M4 g4
        · simp only [hf, jobsOf_some hx, if_neg (show ¬ x.j.inn = false by rw [hin]; decide), if_neg (show ¬ c.kind = 3 by omega), if_pos hk] at hs
          simp only [Rep.v, shT_v, shCons_v, shA_v, shI_v, shB_v, shNil_v]
          exact same _ hs M4 g4
        · simp only [hf, jobsOf_some hx, if_neg (show ¬ x.j.inn = false by rw [hin]; decide), if_neg (show ¬ c.kind = 3 by omega), if_neg (show ¬ x.j.key < c.time by omega)] at hs
          simp only [Rep.v, shT_v, shCons_v, shA_v, shI_v, shB_v, shNil_v]
          exact fin M4 L' now { time := c.time, data := x.j.data } (by omega) (by rw [hs, hj]) g4
      · rename_i k2
        rw [bs_beq]
        split
        · rename_i k
          have hs := stepA_23 (jobs := most) (st := ⟨now, jobsOf L⟩) (was := was) (.inr k)
          refine Jcancel_ok g3 hL (fun hf M4 g4 => ?_) (fun i x hf hx hin M4 g4 => ?_) fun i x hf hx hin M4 L' hl hj g4 => ?_
          · simp only [hf] at hs
            simp only [Rep.v, shT_v, shCons_v, shA_v, shI_v, shB_v, shNil_v]
            exact same _ hs M4 g4
          · simp only [hf, jobsOf_some hx, if_pos hin] at hs
            simp only [Rep.v, shT_v, shCons_v, shA_v, shI_v, shB_v, shNil_v]
            exact same _ hs M4 g4
          · simp only [hf, jobsOf_some hx, if_neg (show ¬ x.j.inn = false by rw [hin]; decide), if_pos k] at hs
            simp only [Rep.v, shT_v, shCons_v, shA_v, shI_v, shB_v, shNil_v]
            exact fin M4 L' now { time := x.j.key, data := x.j.data } (by omega) (by rw [hs, hj]) g4
        · rename_i k3
          rw [bs_beq]
          split
          · rename_i k
            have hs := stepA_4 (jobs := most) (st := ⟨now, jobsOf L⟩) (was := was) k
            have e2 : rd w0 M3 ⟨p, 2, none⟩ = some (.pointer (some ⟨cb, 0, none⟩)) := rd_own (o := 2) g3.h.own1
            simp only [ld_one W.c79, e2, ob_v, shP_v]
            obtain ⟨F2, l2, q1, q2, hH⟩ := g3.enter
            refine cGo_ok hH.rot hn hct (fun ht => ?_) fun ht M4 hc4 => ?_
            · rw [if_pos ht] at hs
              simp only [go_sem]
              rw [show ((1 : Int) != 0) = true from rfl, bs_true]
              exact same _ hs M3 g3
            · rw [if_neg (by omega)] at hs
              have g4 := g3.back l2 q1 q2 (L' := L) hc4.rot rfl rfl rfl g3.ok
              have e2' : rd w0 M4 ⟨p, 2, none⟩ = some (.pointer (some ⟨cb, 0, none⟩)) := rd_own (o := 2) g4.h.own1
              simp only [shI_v]
              rw [show ((0 : Int) != 0) = false from rfl, bs_false]
              simp only [ld_one W.c79, e2', ob_v, shP_v]
              refine cNow_ok (rd_own (o := 0) g4.h.rot.own1) ?_
              simp only [go_sem]
              exact fin M4 L _ { time := addc now c.time } (Nat.le_succ _) hs g4
          · rename_i k4
            rw [bs_beq]
            split
            · rename_i k
              have hq : c.queue = 0 ∨ c.queue = 1 := by unfold badQ at hb; omega
              have hs := stepA_5 (jobs := most) (st := ⟨now, jobsOf L⟩) (was := was) hb k
              refine Jfire_ok g3 hL hq (fun hh M4 g4 => ?_) fun i x hh hk hx M4 L' hl hj g4 => ?_
              · simp only [Rep.v, shT_v, shCons_v, shA_v, shI_v, shB_v, shNil_v]
                refine same { why := 28 } ?_ M4 g4
                rw [hs]
                cases hd : (qE c.queue (jobsOf L)).head? with
                | none => rfl
                | some e => simp only [if_pos (hh e hd)]
              · simp only [hh, if_neg (show ¬ now < x.j.key by omega), Int.toNat_natCast, jobsOf_some hx] at hs
                simp only [Rep.v, shT_v, shCons_v, shA_v, shI_v, shB_v, shNil_v]
                exact fin M4 L' now { at_ := x.j.at_, gen := x.j.gen, time := x.j.key, data := x.j.data } (by omega) (by rw [hs, hj]) g4
            · rename_i k5
              rw [bs_beq]
              split
              · rename_i k
                have hs := stepA_6 (jobs := most) (st := ⟨now, jobsOf L⟩) (was := was) hb k
                rw [bs_beq]
                split
                · rename_i hz
                  rw [if_pos hz] at hs
                  simp only [go_sem]
                  exact same _ hs M3 g3
                · rename_i hz
                  rw [if_neg hz] at hs
                  refine Jmerge_ok g3 hL fun M4 L' hl hj g4 => ?_
                  simp only [Rep.v, shT_v, shCons_v, shA_v, shI_v, shB_v, shNil_v]
                  exact fin M4 L' now { n := ((qE 1 (jobsOf L)).length : Int) } (by omega) (by rw [hs, hj]) g4
              · rename_i k6
                rw [bs_beq]
                split
                · rename_i k
                  have hq : c.queue = 0 ∨ c.queue = 1 := by unfold badQ at hb; omega
                  have hs := stepA_7 (jobs := most) (st := ⟨now, jobsOf L⟩) (was := was) hb k
                  have hq2 : 0 ≤ c.queue ∧ c.queue < ((2 : Nat) : Int) := by omega
                  simp only [ld_one W.c81, Nat.mul_one, g3.cell hq, ob_v, shP_v]
                  refine ⟨hq2, ?_⟩
                  obtain ⟨F1, hS, _⟩ := g3.setq hq
                  have hqe : (if c.queue = 0 then qE 0 (jobsOf L) else qE 1 (jobsOf L)) = qE c.queue (jobsOf L) := by
                    rcases hq with e | e <;> rw [e] <;> rfl
                  rw [hqe] at hS
                  refine mLen_ok hS ?_
                  simp only [go_sem]
                  exact same _ hs M3 g3
                · rename_i k7
                  have hs := stepA_8 (jobs := most) (st := ⟨now, jobsOf L⟩) (was := was) (c := c) (by omega)
                  simp only [go_sem]
                  exact same _ hs M3 g3
  have keyJ2 : ∀ asks : Bool, (asks = true ↔ (c.kind = 1 ∨ c.kind = 5 ∨ c.kind = 6 ∨ c.kind = 7)) → jP_must.J2 pts (some ⟨p, 0, none⟩) ⟨b1, 0, none⟩ ⟨b3, 0, none⟩ ⟨b5, 0, none⟩ asks M3 := by
    intro asks ha
    rw [H.J2]
    unfold jP_must.J2.T
    cases asks with
    | false =>
      rw [bs_false]
      exact keyJ1 fun hb => by have := ha.2 hb.1; cases this
    | true =>
      have hk := ha.1 rfl
      rw [bs_true]
      simp only [ld_one W.c3, add_eq, Nat.zero_add, e1, ob_v, shI_v]
      rw [bs_decide]
      split
      · rename_i hq
        have hs := stepA_bad (jobs := most) (st := ⟨now, jobsOf L⟩) (was := was) (c := c) ⟨hk, .inl hq⟩
        simp only [go_sem]
        exact same _ hs M3 g3
      · rename_i hq
        rw [bs_decide]
        split
        · rename_i hq2
          have hs := stepA_bad (jobs := most) (st := ⟨now, jobsOf L⟩) (was := was) (c := c) ⟨hk, .inr hq2⟩
          simp only [go_sem]
          exact same _ hs M3 g3
        · rename_i hq2
          exact keyJ1 fun hb => by have := hb.2; omega
  simp only [ld_one W.c3, e0, ob_v, shI_v]
  rw [bs_beq]
  split
  · rename_i k; exact keyJ2 true ⟨fun _ => .inl k, fun _ => rfl⟩
  · rename_i k1
    rw [bs_beq]
    split
    · rename_i k; exact keyJ2 true ⟨fun _ => .inr (.inl k), fun _ => rfl⟩
    · rename_i k2
      rw [bs_beq]
      split
      · rename_i k; exact keyJ2 true ⟨fun _ => .inr (.inr (.inl k)), fun _ => rfl⟩
      · rename_i k3
        refine keyJ2 _ ⟨fun hh => ?_, fun hh => ?_⟩
        · exact .inr (.inr (.inr (by simpa using hh)))
        · have : c.kind = 7 := by omega
          rw [this]; rfl
end
end Go.Proofs.Ytedofpnjmnkedaa.HL
namespace Go.Proofs.Ytedofpnjmnkedaa.HL
structure Jb where
  queue : Int
  data : Int
  key : Int
  ser : Int
  at_ : Int
  gen : Int
def Jb.e (j : Jb) : Ent := (j.key, j.ser)
structure D22 where
  most : Int
  now : Int
  next : Int
  pool : Pl
  l : List Jb
def atD (l : List Jb) (a g : Int) : Option Nat := l.findIdx? fun j => decide (j.at_ = a ∧ j.gen = g)
def befD : Option (Nat × Ent) → Ent → Bool
  | none, _ => true
  | some x, e => decide (Lt e x.2)
def firstG (q : Int) : Nat → List Jb → Option (Nat × Ent) → Option (Nat × Ent)
  | _, [], acc => acc
  | i, j :: t, acc => firstG q (i + 1) t (if j.queue = q ∧ befD acc j.e = true then some (i, j.e) else acc)
def firstD (l : List Jb) (q : Int) : Option (Nat × Ent) := firstG q 0 l none
def countD (q : Int) (l : List Jb) : Nat := l.countP fun j => decide (j.queue = q)
def D22.out (d : D22) (k : Nat) : D22 := match d.l[k]? with
  | none => d
  | some j => { d with l := d.l.eraseIdx k, pool := d.pool.give j.at_.toNat }
def do22 (d : D22) (c : Cmd) : D22 × Rep :=
  if (c.kind = 1 ∨ c.kind = 5 ∨ c.kind = 6 ∨ c.kind = 7) ∧ (c.queue < 0 ∨ 2 ≤ c.queue) then (d, { why := 1 })
  else if c.kind = 1 then
    match d.pool.at_ with
    | none => (d, { why := 13 })
    | some a => ({ d with pool := d.pool.take a 0, l := d.l ++ [⟨c.queue, c.data, c.time, d.next, (a : Int), d.pool.gen a⟩], next := d.next + 1 }, { at_ := (a : Int), gen := d.pool.gen a, time := c.time, data := c.data })
  else if c.kind = 2 ∨ c.kind = 3 then
    if d.pool.look c.at_ c.gen ≠ 0 then (d, { why := d.pool.look c.at_ c.gen })
    else match atD d.l c.at_ c.gen with
      | none => (d, {})
      | some k => match d.l[k]? with
        | none => (d, {})
        | some j =>
          if c.kind = 3 then (d.out k, { time := j.key, data := j.data })
          else if j.key < c.time then (d, { why := 26 })
          else ({ d with l := d.l.set k { j with key := c.time } }, { time := c.time, data := j.data })
  else if c.kind = 4 then
    if c.time < 0 then (d, { why := 1 }) else ({ d with now := addc d.now c.time }, { time := addc d.now c.time })
  else if c.kind = 5 then
    match firstD d.l c.queue with
    | none => (d, { why := 28 })
    | some x => if d.now < x.2.1 then (d, { why := 28 }) else
      match d.l[x.1]? with
      | none => (d, {})
      | some j => (d.out x.1, { at_ := j.at_, gen := j.gen, time := j.key, data := j.data })
  else if c.kind = 6 then
    if c.queue = 0 then (d, { why := 25 })
    else ({ d with l := d.l.map fun j => if j.queue = 1 then { j with queue := 0 } else j }, { n := (countD 1 d.l : Int) })
  else if c.kind = 7 then (d, { n := (countD c.queue d.l : Int) })
  else (d, { why := 12 })
structure DOk (d : D22) : Prop where
  pl : PlOk d.pool
  look : ∀ a g, d.pool.look a g = 0 → ∃ k, atD d.l a g = some k
  lk : ∀ j ∈ d.l, d.pool.look j.at_ j.gen = 0
  bl : d.pool.back.length ≤ 10000
  gl : d.pool.gens.length ≤ 10000
  gv : ∀ g ∈ d.pool.gens, 0 ≤ g ∧ g ≤ 1000000
  ll : d.l.length ≤ 10000
  nx : 0 ≤ d.next ∧ d.next ≤ 1000000
theorem firstG_some {q : Int} : ∀ {l : List Jb} {i : Nat} {acc : Option (Nat × Ent)} {P : Nat × Ent → Prop}, (∀ x, acc = some x → P x) → (∀ (n : Nat) j, l[n]? = some j → j.queue = q → P (i + n, j.e)) → ∀ x, firstG q i l acc = some x → P x
  | [], i, acc, P, h0, _, x, hx => h0 x hx
  | j :: l, i, acc, P, h0, h1, x, hx => by
    rw [firstG] at hx
    refine firstG_some (P := P) (fun y hy => ?_) (fun n k hk hq => ?_) x hx
    · split at hy
      · rename_i hc
        cases hy
        exact h1 0 j rfl hc.1
      · exact h0 y hy
    · have := h1 (n + 1) k (by simpa using hk) hq
      rw [show i + 1 + n = i + (n + 1) from by omega]; exact this
theorem firstG_least {q : Int} : ∀ {l : List Jb} {i : Nat} {acc : Option (Nat × Ent)} {x : Nat × Ent}, firstG q i l acc = some x → (∀ y, acc = some y → ¬ Lt y.2 x.2) ∧ ∀ j ∈ l, j.queue = q → ¬ Lt j.e x.2
  | [], i, acc, x, hx => ⟨fun y hy => by
      have : acc = some x := hx
      rw [this] at hy; cases hy; exact Lt.irr, fun j hj => by cases hj⟩
  | j :: l, i, acc, x, hx => by
    rw [firstG] at hx
    obtain ⟨h1, h2⟩ := firstG_least hx
    by_cases hc : j.queue = q ∧ befD acc j.e = true
    · rw [if_pos hc] at h1
      have hj := h1 _ rfl
      refine ⟨fun y hy => ?_, fun k hk hq => ?_⟩
      · subst hy
        intro hh
        have := hc.2
        simp only [befD, decide_eq_true_eq] at this
        exact hj (Lt.tr this hh)
      · rcases List.mem_cons.1 hk with rfl | hk
        · exact hj
        · exact h2 k hk hq
    · rw [if_neg hc] at h1
      refine ⟨h1, fun k hk hq => ?_⟩
      rcases List.mem_cons.1 hk with rfl | hk
      · cases acc with
        | none => exact absurd ⟨hq, rfl⟩ hc
        | some y =>
          have hny : ¬ Lt k.e y.2 := fun hh => hc ⟨hq, by simp only [befD, decide_eq_true_eq]; exact hh⟩
          have hyx := h1 y rfl
          exact fun hh => (nLt.tr hyx hny) hh
      · exact h2 k hk hq
theorem firstG_none {q : Int} : ∀ {l : List Jb} {i : Nat} {acc : Option (Nat × Ent)}, firstG q i l acc = none → acc = none ∧ ∀ j ∈ l, j.queue ≠ q
  | [], i, acc, hx => ⟨hx, fun j hj => by cases hj⟩
  | j :: l, i, acc, hx => by
    rw [firstG] at hx
    obtain ⟨h1, h2⟩ := firstG_none hx
    split at h1
    · cases h1
    · rename_i hc
      subst h1
      refine ⟨rfl, fun k hk hq => ?_⟩
      rcases List.mem_cons.1 hk with rfl | hk
      · exact hc ⟨hq, rfl⟩
      · exact h2 k hk hq
theorem firstD_some {l : List Jb} {q : Int} {x : Nat × Ent} (h : firstD l q = some x) : ∃ j, l[x.1]? = some j ∧ j.queue = q ∧ x.2 = j.e ∧ ∀ k ∈ l, k.queue = q → ¬ Lt k.e j.e := by
  have h1 := firstG_some (q := q) (l := l) (i := 0) (acc := none) (P := fun y => ∃ j, l[y.1]? = some j ∧ j.queue = q ∧ y.2 = j.e) (fun y hy => by cases hy) (fun n j hj hq => ⟨j, by rw [Nat.zero_add]; exact hj, hq, rfl⟩) x h
  obtain ⟨j, h2, h3, h4⟩ := h1
  refine ⟨j, h2, h3, h4, fun k hk hq => ?_⟩
  rw [← h4]
  exact (firstG_least h).2 k hk hq
end Go.Proofs.Ytedofpnjmnkedaa.HL
namespace Go.Proofs.Ytedofpnjmnkedaa.HL
open Go.RowKit (Below)
open Go.Proofs
abbrev tEv : TypeId := 34
def Evt.ints (e : Evt) : List Int := [e.c.kind, e.c.queue, e.c.at_, e.c.gen, e.c.time, e.c.data, e.r.why, e.r.at_, e.r.gen, e.r.time, e.r.data, e.r.n, e.now, e.steps]
def Evt.v (e : Evt) : Value := .agg #[.int .i64 e.c.kind, .int .i64 e.c.queue, .int .i64 e.c.at_, .int .i64 e.c.gen, .int .i64 e.c.time, .int .i64 e.c.data, .int .i64 e.r.why, .int .i64 e.r.at_, .int .i64 e.r.gen, .int .i64 e.r.time, .int .i64 e.r.data, .int .i64 e.r.n, .int .i64 e.now, .int .i64 e.steps]
def evI (l : List Evt) : List Int := l.flatMap Evt.ints
theorem evI_len (l : List Evt) : (evI l).length = l.length * 14 := by
  induction l with
  | nil => rfl
  | cons e l ih =>
    unfold evI at ih ⊢
    rw [List.flatMap_cons, List.length_append, ih, List.length_cons]
    show 14 + _ = _
    omega
theorem evI_get : ∀ {l : List Evt} {i : Nat} {e : Evt}, l[i]? = some e → ∀ f x, e.ints[f]? = some x → (evI l)[i * 14 + f]? = some x := by
  intro l
  induction l with
  | nil => intro i e h; simp at h
  | cons y l ih =>
    intro i e h f x hf
    have hy : (evI (y :: l)) = y.ints ++ evI l := by unfold evI; rw [List.flatMap_cons]
    have hl : y.ints.length = 14 := rfl
    rw [hy]
    cases i with
    | zero =>
      simp at h; subst h
      rw [List.getElem?_append_left (by have := (List.getElem?_eq_some_iff.1 hf).1; omega), Nat.zero_mul, Nat.zero_add]
      exact hf
    | succ i =>
      rw [List.getElem?_append_right (by omega), hl, show (i + 1) * 14 + f - 14 = i * 14 + f by omega]
      exact ih (by simpa using h) f x hf
theorem evI_app (l m : List Evt) : evI (l ++ m) = evI l ++ evI m := by unfold evI; rw [List.flatMap_append]
theorem evI_take (l : List Evt) (i : Nat) (hi : i ≤ l.length) : evI (l.take i) = (evI l).take (i * 14) := by
  have h : evI l = evI (l.take i) ++ evI (l.drop i) := by rw [← evI_app, List.take_append_drop]
  have hl : (evI (l.take i)).length = i * 14 := by rw [evI_len, List.length_take]; omega
  rw [h]; exact (List.take_left' hl).symm
theorem whyA_none {jobs bud : Int} {st : St} {e : Evt} (h : stepA jobs st e.c e.r = none) : whyA jobs bud st e = (2, st) := by
  unfold whyA; rw [h]
theorem whyA_some {jobs bud : Int} {st st' : St} {e : Evt} {r : Rep} (h : stepA jobs st e.c e.r = some (st', r)) : whyA jobs bud st e = if r ≠ e.r then (2, st) else if e.now ≠ st'.now then (3, st) else if e.steps < 0 ∨ bud < e.steps then (4, st) else (0, st') := by
  unfold whyA; rw [h]
theorem stepA_now {jobs : Int} {st st' : St} {c : Cmd} {was r : Rep} (h : stepA jobs st c was = some (st', r)) (hn : In64 st.now) : In64 st'.now := by
  by_cases hb : badQ c
  · rw [stepA_bad hb] at h; cases h; exact hn
  · by_cases k1 : c.kind = 1
    · rw [stepA_1 hb k1] at h
      split at h
      · cases h; exact hn
      · split at h
        · cases h
        · cases h; exact hn
    · by_cases k2 : c.kind = 2 ∨ c.kind = 3
      · rw [stepA_23 k2] at h
        split at h
        · cases h; exact hn
        · split at h
          · cases h
          · split at h
            · cases h; exact hn
            · split at h
              · cases h; exact hn
              · split at h
                · cases h; exact hn
                · cases h; exact hn
      · by_cases k4 : c.kind = 4
        · rw [stepA_4 k4] at h
          split at h
          · cases h; exact hn
          · cases h; exact addc_in
        · by_cases k5 : c.kind = 5
          · rw [stepA_5 hb k5] at h
            split at h
            · cases h; exact hn
            · split at h
              · cases h; exact hn
              · split at h
                · cases h
                · cases h; exact hn
          · by_cases k6 : c.kind = 6
            · rw [stepA_6 hb k6] at h
              split at h
              · cases h; exact hn
              · cases h; exact hn
            · by_cases k7 : c.kind = 7
              · rw [stepA_7 hb k7] at h; cases h; exact hn
              · rw [stepA_8 (by omega)] at h; cases h; exact hn
section
variable {w0 : World} {F M : Mem} {R : VP} {p cb s0 s1 rj rr : Nat} {most bud now : Int} {L : List JM} {Q : Asn}
theorem eqRef (d : Nat) (a g b k : Int) : pure? PP (Op.equalIn (d + 1 + 1) 25 (.agg #[.int .i64 a, .int .i64 g]) (.agg #[.int .i64 b, .int .i64 k])) = some (a == b && g == k) := by
  have := equal_struct (P := PP) (d := d + 1) (es := [a == b, g == k]) (xs := #[.int .i64 a, .int .i64 g]) (ys := #[.int .i64 b, .int .i64 k]) Try.underlying25 (by kernel_rfl)
    ⟨by decide, ⟨.int .i64 a, .int .i64 b, by kernel_rfl, by kernel_rfl, equal_int Try.underlying3 a b⟩, by decide, ⟨.int .i64 g, .int .i64 k, by kernel_rfl, by kernel_rfl, equal_int Try.underlying3 g k⟩, trivial⟩
  rw [show ([a == b, g == k] : List Bool).all id = (a == b && g == k) from by simp [List.all]] at this
  exact this
theorem repB (r s : Rep) : ([r.why == s.why, (r.at_ == s.at_ && r.gen == s.gen), r.time == s.time, r.data == s.data, r.n == s.n] : List Bool).all id = decide (r = s) := by
  rw [Bool.eq_iff_iff]
  simp only [List.all_cons, List.all_nil, id, Bool.and_eq_true, beq_iff_eq, decide_eq_true_eq, and_true]
  cases r; cases s
  simp only [Rep.mk.injEq]
  constructor
  · rintro ⟨h1, ⟨h2, h3⟩, h4, h5, h6⟩; exact ⟨h1, h2, h3, h4, h5, h6⟩
  · rintro ⟨h1, h2, h3, h4, h5, h6⟩; exact ⟨h1, ⟨h2, h3⟩, h4, h5, h6⟩
theorem neRep {X Y : Operand} (r s : Rep) : (std PP w0).bq .neq tRep X Y r.v s.v = some (.bool (!decide (r = s))) := by
  rw [← repB]
  exact neq_struct (es := [r.why == s.why, (r.at_ == s.at_ && r.gen == s.gen), r.time == s.time, r.data == s.data, r.n == s.n]) Try.underlying32 (by kernel_rfl) (by kernel_rfl)
    ⟨by decide, ⟨.int .i64 r.why, .int .i64 s.why, by kernel_rfl, by kernel_rfl, equal_int Try.underlying30 r.why s.why⟩,
     by decide, ⟨.agg #[.int .i64 r.at_, .int .i64 r.gen], .agg #[.int .i64 s.at_, .int .i64 s.gen], by kernel_rfl, by kernel_rfl, eqRef 9997 r.at_ r.gen s.at_ s.gen⟩,
     by decide, ⟨.int .i64 r.time, .int .i64 s.time, by kernel_rfl, by kernel_rfl, equal_int Try.underlying2 r.time s.time⟩,
     by decide, ⟨.int .i64 r.data, .int .i64 s.data, by kernel_rfl, by kernel_rfl, equal_int Try.underlying3 r.data s.data⟩,
     by decide, ⟨.int .i64 r.n, .int .i64 s.n, by kernel_rfl, by kernel_rfl, equal_int Try.underlying3 r.n s.n⟩, trivial⟩
theorem eqRep {X Y : Operand} (r s : Rep) : (std PP w0).bq .eql tRep X Y r.v s.v = some (.bool (decide (r = s))) := by
  rw [← repB]
  exact eql_struct (es := [r.why == s.why, (r.at_ == s.at_ && r.gen == s.gen), r.time == s.time, r.data == s.data, r.n == s.n]) Try.underlying32 (by kernel_rfl) (by kernel_rfl)
    ⟨by decide, ⟨.int .i64 r.why, .int .i64 s.why, by kernel_rfl, by kernel_rfl, equal_int Try.underlying30 r.why s.why⟩,
     by decide, ⟨.agg #[.int .i64 r.at_, .int .i64 r.gen], .agg #[.int .i64 s.at_, .int .i64 s.gen], by kernel_rfl, by kernel_rfl, eqRef 9997 r.at_ r.gen s.at_ s.gen⟩,
     by decide, ⟨.int .i64 r.time, .int .i64 s.time, by kernel_rfl, by kernel_rfl, equal_int Try.underlying2 r.time s.time⟩,
     by decide, ⟨.int .i64 r.data, .int .i64 s.data, by kernel_rfl, by kernel_rfl, equal_int Try.underlying3 r.data s.data⟩,
     by decide, ⟨.int .i64 r.n, .int .i64 s.n, by kernel_rfl, by kernel_rfl, equal_int Try.underlying3 r.n s.n⟩, trivial⟩
theorem Jcheck_ok (h : PlainM w0 F M p cb s0 s1 rj rr most bud now L (qE 0 (jobsOf L)) (qE 1 (jobsOf L)) Q) (hL : L.length ≤ 1000) {e : Evt} (hn : In64 now) (hct : In64 e.c.time)
    (hR : ∀ M' now' L', L'.length ≤ L.length + 1 → In64 now' → ((whyA most bud ⟨now, jobsOf L⟩ e).1 = 0 → (whyA most bud ⟨now, jobsOf L⟩ e).2 = ⟨now', jobsOf L'⟩) → PlainM w0 F M' p cb s0 s1 rj rr most bud now' L' (qE 0 (jobsOf L')) (qE 1 (jobsOf L')) Q → R (.int .i64 (whyA most bud ⟨now, jobsOf L⟩ e).1) M') :
    C PP w0 Id.jP_check #[.pointer (some ⟨p, 0, none⟩), e.v] R M := by
  apply jP_check.go
  unfold jP_check.T
  intro b1 hb0 hbw
  have g1 := h.new hb0 hbw [.int .i64 e.c.kind, .int .i64 e.c.queue, .int .i64 e.c.at_, .int .i64 e.c.gen, .int .i64 e.c.time, .int .i64 e.c.data, .int .i64 e.r.why, .int .i64 e.r.at_, .int .i64 e.r.gen, .int .i64 e.r.time, .int .i64 e.r.data, .int .i64 e.r.n, .int .i64 e.now, .int .i64 e.steps] tEv
  generalize M.set b1 _ = M1 at g1 ⊢
  have ldc : ∀ {M' : Mem}, Own w0 M' b1 [.int .i64 e.c.kind, .int .i64 e.c.queue, .int .i64 e.c.at_, .int .i64 e.c.gen, .int .i64 e.c.time, .int .i64 e.c.data, .int .i64 e.r.why, .int .i64 e.r.at_, .int .i64 e.r.gen, .int .i64 e.r.time, .int .i64 e.r.data, .int .i64 e.r.n, .int .i64 e.now, .int .i64 e.steps] tEv → (std PP w0).ld tCmd ⟨b1, 0, none⟩ M' = some (.agg #[.int .i64 e.c.kind, .int .i64 e.c.queue, .int .i64 e.c.at_, .int .i64 e.c.gen, .int .i64 e.c.time, .int .i64 e.c.data]) := fun o => ld_agg (cs := e.c.cells) W.g27 (fun j v hj => by
    rw [add_eq, rd_own o, Nat.zero_add]
    match j, hj with
    | 0, hj => exact hj
    | 1, hj => exact hj
    | 2, hj => exact hj
    | 3, hj => exact hj
    | 4, hj => exact hj
    | 5, hj => exact hj)
  have ldr : ∀ {M' : Mem}, Own w0 M' b1 [.int .i64 e.c.kind, .int .i64 e.c.queue, .int .i64 e.c.at_, .int .i64 e.c.gen, .int .i64 e.c.time, .int .i64 e.c.data, .int .i64 e.r.why, .int .i64 e.r.at_, .int .i64 e.r.gen, .int .i64 e.r.time, .int .i64 e.r.data, .int .i64 e.r.n, .int .i64 e.now, .int .i64 e.steps] tEv → (std PP w0).ld tRep ⟨b1, 6, none⟩ M' = some (.agg #[.int .i64 e.r.why, .int .i64 e.r.at_, .int .i64 e.r.gen, .int .i64 e.r.time, .int .i64 e.r.data, .int .i64 e.r.n]) := fun o => ld_agg (cs := e.r.cells) W.g32 (fun j v hj => by
    rw [add_eq, rd_own o]
    match j, hj with
    | 0, hj => exact hj
    | 1, hj => exact hj
    | 2, hj => exact hj
    | 3, hj => exact hj
    | 4, hj => exact hj
    | 5, hj => exact hj)
  simp only [add_eq, Nat.zero_add, ldc g1.own, ldr g1.own, ob_v, shA_v, shCons_v, shI_v, shNil_v]
  refine Jmust_ok (c := e.c) (was := e.r) g1 hL hn hct (fun hs M2 g2 => ?_) fun now' L' r hl hs M2 g2 => ?_
  · rw [whyA_none hs] at hR
    simp only [Rep.v, shT_v, shCons_v, shA_v, shI_v, shB_v, shNil_v]
    intro b2 hb2 hbw2
    have g3 := g2.new hb2 hbw2 [.int .i64 0, .int .i64 0, .int .i64 0, .int .i64 0, .int .i64 0, .int .i64 0] tRep
    generalize M2.set b2 _ = M3 at g3 ⊢
    refine st_agg (vs := [.int .i64 0, .int .i64 0, .int .i64 0, .int .i64 0, .int .i64 0, .int .i64 0]) W.g32 g3.own (by simp) (by intro v hv; simp only [List.mem_cons, List.not_mem_nil, or_false] at hv; rcases hv with rfl | rfl | rfl | rfl | rfl | rfl <;> rfl) ?_
    have g4 := g3.upd (cs' := over [.int .i64 0, .int .i64 0, .int .i64 0, .int .i64 0, .int .i64 0, .int .i64 0] 0 [.int .i64 0, .int .i64 0, .int .i64 0, .int .i64 0, .int .i64 0, .int .i64 0]) (e' := tRep)
    rw [Bool.not_false, bs_true]
    exact hR _ now L (Nat.le_succ _) hn (fun hh => by simp at hh) g4.drop.drop
  · rw [whyA_some hs] at hR
    have hn' : In64 now' := stepA_now hs hn
    simp only [Rep.v, shT_v, shCons_v, shA_v, shI_v, shB_v, shNil_v]
    intro b2 hb2 hbw2
    have g3 := g2.new hb2 hbw2 [.int .i64 0, .int .i64 0, .int .i64 0, .int .i64 0, .int .i64 0, .int .i64 0] tRep
    generalize M2.set b2 _ = M3 at g3 ⊢
    refine st_agg (vs := [.int .i64 r.why, .int .i64 r.at_, .int .i64 r.gen, .int .i64 r.time, .int .i64 r.data, .int .i64 r.n]) W.g32 g3.own (by simp) (by intro v hv; simp only [List.mem_cons, List.not_mem_nil, or_false] at hv; rcases hv with rfl | rfl | rfl | rfl | rfl | rfl <;> rfl) ?_
    have g4 := g3.upd (cs' := over [.int .i64 0, .int .i64 0, .int .i64 0, .int .i64 0, .int .i64 0, .int .i64 0] 0 [.int .i64 r.why, .int .i64 r.at_, .int .i64 r.gen, .int .i64 r.time, .int .i64 r.data, .int .i64 r.n]) (e' := tRep)
    have hov : over [.int .i64 0, .int .i64 0, .int .i64 0, .int .i64 0, .int .i64 0, .int .i64 0] 0 [.int .i64 r.why, .int .i64 r.at_, .int .i64 r.gen, .int .i64 r.time, .int .i64 r.data, .int .i64 r.n] = [Value.int .i64 r.why, .int .i64 r.at_, .int .i64 r.gen, .int .i64 r.time, .int .i64 r.data, .int .i64 r.n] := rfl
    rw [hov] at g4 ⊢
    generalize M3.set b2 _ = M4 at g4 ⊢
    rw [Bool.not_true, bs_false]
    have o4 := g4.own
    have ob1 := g4.swap.own
    rw [ld_agg (cs := [.int .i64 r.why, .int .i64 r.at_, .int .i64 r.gen, .int .i64 r.time, .int .i64 r.data, .int .i64 r.n]) W.g32 (fun j v hj => by rw [add_eq, rd_own o4, Nat.zero_add]; exact hj)]
    simp only [add_eq, Nat.zero_add, ldr ob1, ob_v, shA_v, shCons_v, shI_v, shNil_v]
    have hne : (std PP w0).bq .neq tRep (.tmp 20) (.tmp 22) (.agg #[.int .i64 r.why, .int .i64 r.at_, .int .i64 r.gen, .int .i64 r.time, .int .i64 r.data, .int .i64 r.n]) (.agg #[.int .i64 e.r.why, .int .i64 e.r.at_, .int .i64 e.r.gen, .int .i64 e.r.time, .int .i64 e.r.data, .int .i64 e.r.n]) = some (.bool (!decide (r = e.r))) := neRep r e.r
    rw [hne]
    simp only [ob_v, shB_v]
    rw [bs_not, bs_decide]
    split
    · rename_i hr
      rw [if_neg (fun hh => hh hr)] at hR
      have e12 : rd w0 M4 ⟨b1, 12, none⟩ = some (.int .i64 e.now) := rd_own (o := 12) ob1
      have e13 : rd w0 M4 ⟨b1, 13, none⟩ = some (.int .i64 e.steps) := rd_own (o := 13) ob1
      have e2 : rd w0 M4 ⟨p, 2, none⟩ = some (.pointer (some ⟨cb, 0, none⟩)) := rd_own (o := 2) g4.h.own1
      have ep1 : rd w0 M4 ⟨p, 1, none⟩ = some (.int .i64 bud) := rd_own (o := 1) g4.h.own1
      simp only [nc_v, ld_one W.c2, ld_one W.c79, add_eq, Nat.zero_add, e12, e2, ob_v, shI_v, shP_v]
      refine cNow_ok (rd_own (o := 0) g4.h.rot.own1) ?_
      rw [shI_v]
      refine ⟨e12, ?_⟩
      rw [bs_bne]
      split
      · rename_i hnn
        rw [if_neg (fun hh => hh hnn)] at hR
        simp only [nc_v, ld_one W.c2, add_eq, Nat.zero_add, e13, ep1, ob_v, shI_v]
        rw [bs_decide]
        split
        · rename_i h0
          rw [if_pos (.inl h0)] at hR
          exact hR M4 now' L' hl hn' (fun hh => by simp at hh) g4.drop.drop
        · rename_i h0
          rw [bs_decide]
          split
          · rename_i h1
            rw [if_pos (.inr h1)] at hR
            exact hR M4 now' L' hl hn' (fun hh => by simp at hh) g4.drop.drop
          · rename_i h1
            rw [if_neg (fun hh => by rcases hh with hh | hh; exact h0 hh; exact h1 hh)] at hR
            exact hR M4 now' L' hl hn' (fun _ => rfl) g4.drop.drop
      · rename_i hnn
        rw [if_pos hnn] at hR
        exact hR M4 now' L' hl hn' (fun hh => by simp at hh) g4.drop.drop
    · rename_i hr
      rw [if_pos hr] at hR
      exact hR M4 now' L' hl hn' (fun hh => by simp at hh) g4.drop.drop
end
end Go.Proofs.Ytedofpnjmnkedaa.HL
namespace Go.Proofs.Ytedofpnjmnkedaa.HL
def bl (n : Nat) : Nat := if n = 0 then 0 else Nat.log2 n + 1
theorem bl_pos {n : Nat} (h : 0 < n) : 2 ^ (bl n - 1) ≤ n ∧ n < 2 ^ bl n := by
  unfold bl
  rw [if_neg (by omega), Nat.add_sub_cancel]
  exact ⟨Nat.log2_self_le (by omega), Nat.lt_log2_self⟩
theorem bl_eq {n k : Nat} (h1 : 2 ^ k ≤ n) (h2 : n < 2 ^ (k + 1)) : bl n = k + 1 := by
  have hp : 0 < 2 ^ k := Nat.pow_pos (by decide)
  have hn : 0 < n := by omega
  obtain ⟨h3, h4⟩ := bl_pos hn
  have hb : 0 < bl n := by unfold bl; rw [if_neg (by omega)]; omega
  have h5 : bl n - 1 < k + 1 := (Nat.pow_lt_pow_iff_right (by decide)).1 (Nat.lt_of_le_of_lt h3 h2)
  have h6 : k < bl n := (Nat.pow_lt_pow_iff_right (a := 2) (by decide)).1 (Nat.lt_of_le_of_lt h1 h4)
  omega
theorem bl_div {x k : Nat} (h : 2 ^ k ≤ x) : bl x = bl (x / 2 ^ k) + k := by
  have hp : 0 < 2 ^ k := Nat.pow_pos (by decide)
  have hy : 0 < x / 2 ^ k := Nat.div_pos h hp
  obtain ⟨h1, h2⟩ := bl_pos hy
  have hb : 0 < bl (x / 2 ^ k) := by unfold bl; rw [if_neg (by omega)]; omega
  generalize hj : bl (x / 2 ^ k) = j at h1 h2 hb
  obtain ⟨j, rfl⟩ : ∃ i, j = i + 1 := ⟨j - 1, by omega⟩
  rw [Nat.add_sub_cancel] at h1
  have e : j + 1 + k = j + k + 1 := by omega
  rw [e]
  refine bl_eq ?_ ?_
  · rw [Nat.pow_add]; exact (Nat.le_div_iff_mul_le hp).1 h1
  · rw [← e, Nat.pow_add]; exact (Nat.div_lt_iff_lt_mul hp).1 h2
theorem bl_le {n k : Nat} (h : n < 2 ^ k) : bl n ≤ k := by
  by_cases h0 : n = 0
  · subst h0; simp [bl]
  · obtain ⟨h1, h2⟩ := bl_pos (show 0 < n by omega)
    have := (Nat.pow_lt_pow_iff_right (a := 2) (by decide)).1 (Nat.lt_of_le_of_lt h1 h)
    omega
def limI (a b : Int) : Nat → Int
  | 0 => a
  | k + 1 => limI (addc a b) b k
theorem limI_small {b : Int} (hb : 0 ≤ b) : ∀ (k : Nat) (a : Int), 0 ≤ a → a + b * k ≤ 9223372036854775807 → limI a b k = a + b * k
  | 0, a, _, _ => by simp [limI]
  | k + 1, a, ha, h => by
    have h1 : b * ((k + 1 : Nat) : Int) = b * k + b := by rw [Int.natCast_add, Int.mul_add]; simp
    have h2 : 0 ≤ b * (k : Int) := Int.mul_nonneg hb (by omega)
    have e : addc a b = a + b := by unfold addc; rw [if_neg (by omega), if_neg (by omega)]
    rw [limI, e, limI_small hb k (a + b) (by omega) (by omega)]
    omega
theorem bl_half {n : Nat} (h : 0 < n) : bl n = bl (n / 2) + 1 := by
  by_cases h1 : n = 1
  · subst h1; rfl
  · have := bl_div (x := n) (k := 1) (by omega)
    simpa using this
end Go.Proofs.Ytedofpnjmnkedaa.HL
namespace Go.Proofs.Ytedofpnjmnkedaa.HL
open Go.RowKit (Below)
open Go.Proofs
section
variable {w0 : World} {M M0 F : Mem} {R : VP}
noncomputable def lenTab (n : Nat) : Bool := match (std PP default).idx 9 (Value.string ⟨(([0, 1, 2, 2, 3, 3, 3, 3, 4, 4, 4, 4, 4, 4, 4, 4, 5, 5, 5, 5, 5, 5, 5, 5, 5, 5, 5, 5, 5, 5, 5, 5, 6, 6, 6, 6, 6, 6, 6, 6, 6, 6, 6, 6, 6, 6, 6, 6, 6, 6, 6, 6, 6, 6, 6, 6, 6, 6, 6, 6, 6, 6, 6, 6, 7, 7, 7, 7, 7, 7, 7, 7, 7, 7, 7, 7, 7, 7, 7, 7, 7, 7, 7, 7, 7, 7, 7, 7, 7, 7, 7, 7, 7, 7, 7, 7, 7, 7, 7, 7, 7, 7, 7, 7, 7, 7, 7, 7, 7, 7, 7, 7, 7, 7, 7, 7, 7, 7, 7, 7, 7, 7, 7, 7, 7, 7, 7, 7, 8, 8, 8, 8, 8, 8, 8, 8, 8, 8, 8, 8, 8, 8, 8, 8, 8, 8, 8, 8, 8, 8, 8, 8, 8, 8, 8, 8, 8, 8, 8, 8, 8, 8, 8, 8, 8, 8, 8, 8, 8, 8, 8, 8, 8, 8, 8, 8, 8, 8, 8, 8, 8, 8, 8, 8, 8, 8, 8, 8, 8, 8, 8, 8, 8, 8, 8, 8, 8, 8, 8, 8, 8, 8, 8, 8, 8, 8, 8, 8, 8, 8, 8, 8, 8, 8, 8, 8, 8, 8, 8, 8, 8, 8, 8, 8, 8, 8, 8, 8, 8, 8, 8, 8, 8, 8, 8, 8, 8, 8, 8, 8, 8, 8, 8, 8, 8, 8, 8, 8, 8, 8, 8, 8, 8, 8, 8, 8] : List UInt8)).toArray⟩) (.int .u8 (n : Int)) with
  | some (.int .u8 v) => v == ((bl n : Nat) : Int)
  | _ => false
theorem lenTab_all : (List.range 256).all lenTab = true := by kernel_rfl
theorem Len64_ok {x : Nat} (hx : x < 2 ^ 64) (h : R (.int .i64 (bl x : Int)) M) : C PP w0 Id.bits_Len64 #[.int .u64 (x : Int)] R M := by
  apply bits_Len64.go
  intro pts H
  unfold bits_Len64.T
  have three : ∀ (y n : Nat), y < 256 → n ≤ 56 → bl x = bl y + n → bits_Len64.J3 pts (y : Int) (n : Int) M := by
    intro y n hy hn hb
    rw [H.J3]
    unfold bits_Len64.J3.T
    have hw : IntKind.wrap .u8 (y : Int) = (y : Int) := by unfold IntKind.wrap; simp [IntKind.bits, IntKind.signed]; omega
    rw [hw]
    have ht := List.all_eq_true.1 lenTab_all y (List.mem_range.2 hy)
    unfold lenTab at ht
    split at ht
    · rename_i v hv
      have hv' : (std PP w0).idx 9 (Value.string ⟨(([0, 1, 2, 2, 3, 3, 3, 3, 4, 4, 4, 4, 4, 4, 4, 4, 5, 5, 5, 5, 5, 5, 5, 5, 5, 5, 5, 5, 5, 5, 5, 5, 6, 6, 6, 6, 6, 6, 6, 6, 6, 6, 6, 6, 6, 6, 6, 6, 6, 6, 6, 6, 6, 6, 6, 6, 6, 6, 6, 6, 6, 6, 6, 6, 7, 7, 7, 7, 7, 7, 7, 7, 7, 7, 7, 7, 7, 7, 7, 7, 7, 7, 7, 7, 7, 7, 7, 7, 7, 7, 7, 7, 7, 7, 7, 7, 7, 7, 7, 7, 7, 7, 7, 7, 7, 7, 7, 7, 7, 7, 7, 7, 7, 7, 7, 7, 7, 7, 7, 7, 7, 7, 7, 7, 7, 7, 7, 7, 8, 8, 8, 8, 8, 8, 8, 8, 8, 8, 8, 8, 8, 8, 8, 8, 8, 8, 8, 8, 8, 8, 8, 8, 8, 8, 8, 8, 8, 8, 8, 8, 8, 8, 8, 8, 8, 8, 8, 8, 8, 8, 8, 8, 8, 8, 8, 8, 8, 8, 8, 8, 8, 8, 8, 8, 8, 8, 8, 8, 8, 8, 8, 8, 8, 8, 8, 8, 8, 8, 8, 8, 8, 8, 8, 8, 8, 8, 8, 8, 8, 8, 8, 8, 8, 8, 8, 8, 8, 8, 8, 8, 8, 8, 8, 8, 8, 8, 8, 8, 8, 8, 8, 8, 8, 8, 8, 8, 8, 8, 8, 8, 8, 8, 8, 8, 8, 8, 8, 8, 8, 8, 8, 8, 8, 8, 8, 8] : List UInt8)).toArray⟩) (.int .u8 (y : Int)) = some (.int .u8 v) := hv
      rw [hv', ob_v]
      have hv2 : v = ((bl y : Nat) : Int) := by simpa using ht
      have hbl : bl y ≤ 8 := bl_le (k := 8) (by omega)
      rw [shI_v, hv2, w64_in (n := ((bl y : Nat) : Int)) (by omega), w64_in (by omega), show (n : Int) + (bl y : Int) = (bl x : Int) from by omega]
      exact h
    · cases ht
  have two : ∀ (y n : Nat), y < 65536 → n ≤ 48 → bl x = bl y + n → bits_Len64.J2 pts (y : Int) (n : Int) M := by
    intro y n hy hn hb
    rw [H.J2]
    unfold bits_Len64.J2.T
    rw [bs_decide]
    split
    · rename_i hge
      refine ⟨by omega, ?_⟩
      have e : Int.fdiv (y : Int) (2 ^ (min (8 : Int).toNat (IntKind.bits .u64))) = ((y / 2 ^ 8 : Nat) : Int) := by
        rw [Int.fdiv_eq_ediv_of_nonneg _ (by decide)]; rfl
      rw [e, w64_in (by omega)]
      exact three (y / 2 ^ 8) (n + 8) (by omega) (by omega) (by rw [hb, bl_div (x := y) (k := 8) (by omega)]; omega)
    · exact three y n (by omega) (by omega) hb
  have one : ∀ (y n : Nat), y < 4294967296 → n ≤ 32 → bl x = bl y + n → bits_Len64.J1 pts (y : Int) (n : Int) M := by
    intro y n hy hn hb
    rw [H.J1]
    unfold bits_Len64.J1.T
    rw [bs_decide]
    split
    · rename_i hge
      refine ⟨by omega, ?_⟩
      have e : Int.fdiv (y : Int) (2 ^ (min (16 : Int).toNat (IntKind.bits .u64))) = ((y / 2 ^ 16 : Nat) : Int) := by
        rw [Int.fdiv_eq_ediv_of_nonneg _ (by decide)]; rfl
      rw [e, w64_in (by omega)]
      exact two (y / 2 ^ 16) (n + 16) (by omega) (by omega) (by rw [hb, bl_div (x := y) (k := 16) (by omega)]; omega)
    · exact two y n (by omega) (by omega) hb
  rw [bs_decide]
  split
  · rename_i hge
    refine ⟨by omega, ?_⟩
    have e : Int.fdiv (x : Int) (2 ^ (min (32 : Int).toNat (IntKind.bits .u64))) = ((x / 2 ^ 32 : Nat) : Int) := by
      rw [Int.fdiv_eq_ediv_of_nonneg _ (by decide)]; rfl
    rw [e]
    exact one (x / 2 ^ 32) 32 (by omega) (by omega) (bl_div (x := x) (k := 32) (by omega))
  · exact one x 0 (by omega) (by omega) rfl
theorem Bits_ok {n : Int} (hn : In64 n) (h : R (.int .i64 (bl n.toNat : Int)) M) : C PP w0 Id.order_Bits #[.int .i64 n] R M := by
  apply order_Bits.go
  unfold order_Bits.T
  have e1 : (if n > 0 then n else 0) = ((n.toNat : Nat) : Int) := by split <;> omega
  unfold In64 at hn
  have e2 : u64 ((n.toNat : Nat) : Int) = ((n.toNat : Nat) : Int) := by unfold u64 IntKind.wrap; simp [IntKind.bits, IntKind.signed]; omega
  rw [e1, e2]
  show C PP w0 Id.bits_Len _ _ M
  apply bits_Len.go
  unfold bits_Len.T
  refine Len64_ok (by omega) ?_
  simp only [go_sem]
  exact h
theorem Limit_ok {a b n : Int} (ha : In64 a) (hb : In64 b) (hn : In64 n) (h : R (.int .i64 (limI a b (bl n.toNat))) M) : C PP w0 Id.order_Limit #[.int .i64 a, .int .i64 b, .int .i64 n] R M := by
  apply order_Limit.go
  intro pts H
  unfold order_Limit.T
  refine Bits_ok hn ?_
  have hbl : bl n.toNat ≤ 64 := bl_le (by unfold In64 at hn; omega)
  simp only [go_sem]
  have key : ∀ (k i : Nat) (a : Int), bl n.toNat < i + k → i ≤ bl n.toNat → In64 a → R (.int .i64 (limI a b (bl n.toNat - i))) M → order_Limit.L1 pts k a b ((bl n.toNat : Nat) : Int) (i : Int) M := by
    intro k
    induction k with
    | zero => intro i a h1 h2; omega
    | succ k ih =>
      intro i a h1 h2 ha hR
      rw [H.L1]
      unfold order_Limit.L1.T
      rw [bs_decide]
      split
      · refine order_Add_ok ha hb ?_
        rw [shI_v, w64_in (by omega)]
        refine ih (i + 1) (addc a b) (by omega) (by omega) addc_in ?_
        rw [show bl n.toNat - i = (bl n.toNat - (i + 1)) + 1 from by omega] at hR
        exact hR
      · rw [show bl n.toNat - i = 0 from by omega] at hR
        exact hR
  exact ⟨bl n.toNat + 1, key _ 0 a (by omega) (by omega) ha h⟩
end
end Go.Proofs.Ytedofpnjmnkedaa.HL
namespace Go.Proofs.Ytedofpnjmnkedaa.HL
open Go.RowKit (Below)
open Go.Proofs
def worstK (k : Int) : Prop := 1 ≤ k ∧ k ≤ 3
instance (k : Int) : Decidable (worstK k) := by unfold worstK; infer_instance
section
variable {w0 : World} {M M0 F : Mem} {R : VP}
theorem Worst_ok {k : Int} (h : R (.bool (decide (worstK k))) M) : C PP w0 Id.kind_Worst #[.int .i64 k] R M := by
  apply kind_Worst.go
  unfold kind_Worst.T
  rw [bs_decide]
  split
  · rw [show decide (worstK k) = decide (k ≤ 3) from by rw [decide_eq_decide]; unfold worstK; omega] at h; exact h
  · rw [decide_eq_false (by unfold worstK; omega)] at h; exact h
theorem lim_small {a b : Int} {n : Nat} (ha : 0 ≤ a) (hb : 0 ≤ b) (ha1 : a ≤ 1000000) (hb1 : b ≤ 1000000) (hn : n ≤ 100) : limI a b n = a + b * n := by
  refine limI_small hb n a ha ?_
  have : b * (n : Int) ≤ 1000000 * 100 := Int.mul_le_mul hb1 (by omega) (by omega) (by omega)
  omega
theorem Budget_ok {k n : Int} (hk : worstK k) (h1 : 1 ≤ n) (h2 : n ≤ 4096) (h : R (.tuple #[.int .i64 (2000 + 1600 * (bl (n.toNat + 1) : Int)), .bool true]) M) : C PP w0 Id.bound_Budget #[.int .i64 k, .int .i64 n] R M := by
  apply bound_Budget.go
  unfold bound_Budget.T
  refine Worst_ok ?_
  rw [shB_v, bs_not, bs_decide, if_pos hk, bs_decide, if_neg (by omega), bs_decide, if_neg (by omega), w64_in (by omega)]
  refine Limit_ok (by unfold In64; omega) (by unfold In64; omega) (by unfold In64; omega) ?_
  rw [shI_v, lim_small (by omega) (by omega) (by omega) (by omega) (bl_le (Nat.lt_of_lt_of_le (show (n + 1).toNat < 2 ^ 31 by omega) (Nat.pow_le_pow_right (by decide) (by decide)))), show (n + 1).toNat = n.toNat + 1 from by omega]
  exact h
theorem Budget_no {k n : Int} (hk : ¬ worstK k) (h : R (.tuple #[.int .i64 0, .bool false]) M) : C PP w0 Id.bound_Budget #[.int .i64 k, .int .i64 n] R M := by
  apply bound_Budget.go
  unfold bound_Budget.T
  refine Worst_ok ?_
  rw [shB_v, bs_not, bs_decide, if_neg hk]
  exact h
end
end Go.Proofs.Ytedofpnjmnkedaa.HL
