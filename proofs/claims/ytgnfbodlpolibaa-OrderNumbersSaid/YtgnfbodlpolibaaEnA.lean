/-
  EnA: rows of entries: read, written, made longer.
-/
import Derived.Test.YtgnfbodlpolibaaHlL
import Derived.Test.YtgnfbodlpolibaaCmA
import Derived.Test.YtgnfbodlpolibaaEnM
set_option linter.unusedVariables false
set_option linter.unusedSimpArgs false
set_option maxRecDepth 100000
namespace Go.Proofs.Ytgnfbodlpolibaa.HL
open Go.RowKit (Below)
open Go.Proofs


def eV (e : Ent) : List Value := [.int .i64 e.1, .int .i64 e.2]
def esV (l : List Ent) : List Value := l.flatMap eV
theorem esV_nil : esV [] = [] := rfl
theorem esV_cons (e : Ent) (l : List Ent) : esV (e :: l) = .int .i64 e.1 :: .int .i64 e.2 :: esV l := rfl
theorem esV_append (l m : List Ent) : esV (l ++ m) = esV l ++ esV m := by simp [esV]
theorem esV_len (l : List Ent) : (esV l).length = l.length * 2 := by
  induction l with
  | nil => rfl
  | cons e l ih => rw [esV_cons, List.length_cons, List.length_cons, List.length_cons, ih]; omega
theorem esV_get {l : List Ent} : ∀ {i : Nat} {e : Ent}, l[i]? = some e → (esV l)[i * 2]? = some (.int .i64 e.1) ∧ (esV l)[i * 2 + 1]? = some (.int .i64 e.2) := by
  induction l with
  | nil => intro i e h; simp at h
  | cons x l ih =>
    intro i e h
    cases i with
    | zero =>
      simp at h; subst h
      exact ⟨rfl, rfl⟩
    | succ i =>
      rw [List.getElem?_cons_succ] at h
      obtain ⟨h1, h2⟩ := ih h
      rw [esV_cons]
      refine ⟨?_, ?_⟩
      · rw [show (i + 1) * 2 = (i * 2 + 1) + 1 from by omega, List.getElem?_cons_succ, List.getElem?_cons_succ]; exact h1
      · rw [show (i + 1) * 2 + 1 = (i * 2 + 1 + 1) + 1 from by omega, List.getElem?_cons_succ, List.getElem?_cons_succ]; exact h2
theorem esV_one (l : List Ent) : ∀ v ∈ esV l, onecell v = true := by
  intro v hv
  obtain ⟨e, _, h⟩ := List.mem_flatMap.1 hv
  simp [eV] at h
  rcases h with rfl | rfl <;> rfl
theorem esV_take (l : List Ent) : ∀ (i : Nat), esV (l.take i) = (esV l).take (i * 2) := by
  induction l with
  | nil => intro i; simp [esV]
  | cons x l ih =>
    intro i
    cases i with
    | zero => simp [esV]
    | succ i => rw [List.take_succ_cons, esV_cons, esV_cons, ih, show (i + 1) * 2 = i * 2 + 1 + 1 from by omega]; rfl
theorem esV_drop (l : List Ent) : ∀ (i : Nat), esV (l.drop i) = (esV l).drop (i * 2) := by
  induction l with
  | nil => intro i; simp [esV]
  | cons x l ih =>
    intro i
    cases i with
    | zero => simp
    | succ i => rw [List.drop_succ_cons, ih, esV_cons, show (i + 1) * 2 = i * 2 + 1 + 1 from by omega]; rfl
theorem esV_set (l : List Ent) (e : Ent) : ∀ (i : Nat), i < l.length → over (esV l) (i * 2) (eV e) = esV (l.set i e) := by
  intro i hi
  have h1 : l = l.take i ++ (l[i] :: l.drop (i + 1)) := by rw [← List.drop_eq_getElem_cons hi, List.take_append_drop]
  have h2 : l.set i e = l.take i ++ (e :: l.drop (i + 1)) := by rw [List.set_eq_take_append_cons_drop, if_pos hi]
  rw [h2, esV_append, esV_cons]
  conv => lhs; rw [h1, esV_append, esV_cons]
  have := over_mid (esV (l.take i)) [.int .i64 l[i].1, .int .i64 l[i].2] (esV (l.drop (i + 1))) (eV e) rfl (o := i * 2) (by rw [esV_len, List.length_take]; omega)
  simpa [eV] using this

/-- A row of entries that is read. -/
structure RdE (w0 : World) (M0 : Mem) (s : SV) (l : List Ent) : Prop where
  len : s.n = l.length
  cap : s.n ≤ s.c
  nul : s.a = none → s.n = 0
  cells : ∀ M, Mem.le M0 M → Cells w0 M s.a (esV l)

def SV.cut (s : SV) (lo hi : Nat) : SV := ⟨if s.c = lo then s.a else s.a.map (·.add (lo * 2)), hi - lo, s.c - lo⟩
def Es (s : SV) (l : List Ent) : Asn := SlKA 2 s (esV l)

section
variable {w0 : World} {M M0 F : Mem} {R : Value → Mem → Prop}

theorem RdE.le {M1 : Mem} {s : SV} {l : List Ent} (h : RdE w0 M0 s l) (hl : Mem.le M0 M1) : RdE w0 M1 s l := ⟨h.len, h.cap, h.nul, fun M hM => h.cells M (Mem.le_trans hl hM)⟩
theorem RdE.nil : RdE w0 M0 ⟨none, 0, 0⟩ [] := ⟨rfl, Nat.le_refl _, fun _ => rfl, fun M _ j v h => by simp [esV] at h⟩
theorem RdE.cut {s : SV} {l : List Ent} (h : RdE w0 M0 s l) {lo hi : Nat} (h1 : lo ≤ hi) (h2 : hi ≤ l.length) : RdE w0 M0 (s.cut lo hi) ((l.take hi).drop lo) := by
  have hl := h.len
  have hc := h.cap
  refine ⟨by simp [SV.cut]; omega, by simp only [SV.cut]; omega, fun e => ?_, fun M hM => ?_⟩
  · simp only [SV.cut] at e ⊢
    split at e
    · have := h.nul e; omega
    · have := h.nul (by simpa using e); omega
  · have hcs := h.cells M hM
    intro j v hj
    have hj2 : (esV l)[lo * 2 + j]? = some v := by
      rw [esV_drop, esV_take, List.getElem?_drop] at hj
      have hlt := (List.getElem?_eq_some_iff.1 hj).1
      rw [List.getElem?_take] at hj
      split at hj
      · exact hj
      · cases hj
    obtain ⟨ad, ea, hr⟩ := hcs _ v hj2
    have hlt := (List.getElem?_eq_some_iff.1 hj2).1
    rw [esV_len] at hlt
    refine ⟨ad.add (lo * 2), ?_, ?_⟩
    · simp only [SV.cut]
      rw [if_neg (by omega), ea]; rfl
    · rw [add_add]; exact hr

theorem RdE.ad {s : SV} {l : List Ent} (h : RdE w0 M0 s l) {j : Nat} {x : Ent} (hj : l[j]? = some x) : ∃ a, s.a = some a ∧ ∀ M, Mem.le M0 M → rd w0 M (a.add (j * 2)) = some (.int .i64 x.1) ∧ rd w0 M (a.add (j * 2 + 1)) = some (.int .i64 x.2) := by
  obtain ⟨g1, g2⟩ := esV_get hj
  obtain ⟨a, ea, _⟩ := h.cells M0 (Mem.le_refl _) _ _ g1
  refine ⟨a, ea, fun M hM => ?_⟩
  obtain ⟨a1, ea1, hr1⟩ := h.cells M hM _ _ g1
  obtain ⟨a2, ea2, hr2⟩ := h.cells M hM _ _ g2
  rw [ea] at ea1 ea2; cases ea1; cases ea2
  exact ⟨hr1, hr2⟩
theorem RdE.ld {s : SV} {l : List Ent} (h : RdE w0 M0 s l) {j : Nat} {x : Ent} (hj : l[j]? = some x) : ∃ a, s.a = some a ∧ ∀ M, Mem.le M0 M → (std PP w0).ld 40 (a.add (j * 2)) M = some (.agg #[.int .i64 x.1, .int .i64 x.2]) := by
  obtain ⟨a, ea, hr⟩ := h.ad hj
  refine ⟨a, ea, fun M hM => ?_⟩
  obtain ⟨r1, r2⟩ := hr M hM
  exact ld_agg (cs := [.int .i64 x.1, .int .i64 x.2]) W.g40 (fun f v hv => by
    match f, hv with
    | 0, hv => simp at hv; subst hv; rw [add_add]; exact r1
    | 1, hv => simp at hv; subst hv; rw [add_add]; exact r2)

theorem rdE {s : SV} {l : List Ent} (h : RdE w0 M0 s l) (hl : Mem.le M0 M) {i : Int} (j : Nat) (e : i = (j : Int)) {x : Ent} (hj : l[j]? = some x) {K : Int → Int → Prop} (hK : K x.1 x.2) :
    nc s.a fun a => (0 ≤ i ∧ i < ((s.n : Nat) : Int)) ∧ ob ((std PP w0).ld 40 (a.add (i.toNat * 2)) M) fun v => shA v fun l5 => shCons l5 fun u6 r7 => shI .i64 u6 fun n8 => shCons r7 fun u9 r10 => shI .i64 u9 fun n11 => shNil r10 (K n8 n11) := by
  subst e
  obtain ⟨a, ea, hr⟩ := h.ld hj
  have hlt := (List.getElem?_eq_some_iff.1 hj).1
  have := h.len
  rw [ea, nc_v, Int.toNat_natCast, hr M hl]
  simp only [ob_v, shA_v, shCons_v, shI_v, shNil_v]
  exact ⟨⟨by omega, by omega⟩, hK⟩
/-- .. where it is looked at once more. -/
theorem rdEa {s : SV} {l : List Ent} (h : RdE w0 M0 s l) (hl : Mem.le M0 M) {i : Int} (j : Nat) (e : i = (j : Int)) {x : Ent} (hj : l[j]? = some x) {K : Addr → Int → Int → Prop}
    (hK : ∀ a, (∀ M, Mem.le M0 M → (std PP w0).ld 40 (a.add (i.toNat * 2)) M = some (.agg #[.int .i64 x.1, .int .i64 x.2])) → K a x.1 x.2) :
    nc s.a fun a => (0 ≤ i ∧ i < ((s.n : Nat) : Int)) ∧ ob ((std PP w0).ld 40 (a.add (i.toNat * 2)) M) fun v => shA v fun l5 => shCons l5 fun u6 r7 => shI .i64 u6 fun n8 => shCons r7 fun u9 r10 => shI .i64 u9 fun n11 => shNil r10 (K a n8 n11) := by
  subst e
  obtain ⟨a, ea, hr⟩ := h.ld hj
  have hlt := (List.getElem?_eq_some_iff.1 hj).1
  have := h.len
  rw [ea, nc_v, Int.toNat_natCast, hr M hl]
  simp only [ob_v, shA_v, shCons_v, shI_v, shNil_v]
  exact ⟨⟨by omega, by omega⟩, hK a (fun M hM => by rw [Int.toNat_natCast]; exact hr M hM)⟩
theorem rdE0 {t : TypeId} (ht : cell1 PP t = true) {s : SV} {l : List Ent} (h : RdE w0 M0 s l) (hl : Mem.le M0 M) {i : Int} (j : Nat) (e : i = (j : Int)) {x : Ent} (hj : l[j]? = some x) {K : Int → Prop} (hK : K x.1) :
    nc s.a fun a => (0 ≤ i ∧ i < ((s.n : Nat) : Int)) ∧ ob ((std PP w0).ld t (a.add (i.toNat * 2)) M) fun v => shI .i64 v fun n => K n := by
  subst e
  obtain ⟨a, ea, hr⟩ := h.ad hj
  have hlt := (List.getElem?_eq_some_iff.1 hj).1
  have := h.len
  rw [ea, nc_v, Int.toNat_natCast, ld_one ht, (hr M hl).1, ob_v, shI_v]
  exact ⟨⟨by omega, by omega⟩, hK⟩
theorem rdE1 {t : TypeId} (ht : cell1 PP t = true) {s : SV} {l : List Ent} (h : RdE w0 M0 s l) (hl : Mem.le M0 M) {i : Int} (j : Nat) (e : i = (j : Int)) {x : Ent} (hj : l[j]? = some x) {K : Int → Prop} (hK : K x.2) :
    nc s.a fun a => (0 ≤ i ∧ i < ((s.n : Nat) : Int)) ∧ ob ((std PP w0).ld t (Addr.add (a.add (i.toNat * 2)) 1) M) fun v => shI .i64 v fun n => K n := by
  subst e
  obtain ⟨a, ea, hr⟩ := h.ad hj
  have hlt := (List.getElem?_eq_some_iff.1 hj).1
  have := h.len
  rw [ea, nc_v, Int.toNat_natCast, ld_one ht, add_add, (hr M hl).2, ob_v, shI_v]
  exact ⟨⟨by omega, by omega⟩, hK⟩

theorem SlK.rdE {s : SV} {l : List Ent} (h : SlK w0 M0 M 2 s (esV l)) : RdE w0 M s l := by
  refine ⟨?_, h.cap (by decide), fun e => (h.none e).1, fun M2 hM => (h.le hM).cells⟩
  have := h.len
  rw [esV_len] at this; omega
theorem Holds.rdE {s : SV} {l : List Ent} {Q : Asn} (h : Holds w0 F M (star (Es s l) Q)) : RdE w0 M s l := by
  obtain ⟨F', h1, _⟩ := Holds.slk h
  exact h1.rdE

/-- What is put behind one's own entries. -/
theorem appE {s x : SV} {l m : List Ent} {Q : Asn} (h : Holds w0 F M (star (Es s l) Q)) (hx : RdE w0 M x m) (hb : l.length + m.length ≤ 137438953472) {K : Value → Mem → Prop} (hK : ∀ M' s', Holds w0 F M' (star (Es s' (l ++ m)) Q) → K s'.v M') :
    (std PP w0).app #[36, 36] 36 [SV.v s, SV.v x] K M := by
  obtain ⟨F', h1, h2, h3⟩ := Holds.slk h
  have hl := h1.rdE.len
  refine app_slk (k := 2) Try.underlying36 W.e40 h2 h1 (news := esV m) (by rw [esV_len, hx.len]) (hx.cells M (Mem.le_refl _)) hx.nul (esV_one m) (by decide) (by rw [hl, hx.len]; exact hb) fun M' s' l1 l2 _ => ?_
  refine hK M' s' (h3 M' s' _ ?_ l1)
  rw [esV_append]; exact l2
theorem newE0 {P : Asn} (h : Holds w0 F M P) {K : Value → Mem → Prop} (hK : ∀ M' s', Mem.le M M' → s'.a ≠ none → Holds w0 F M' (star (Es s' []) P) → K s'.v M') : (std PP w0).bsl 36 0 [] K M := by
  refine bsl_e (cells := #[]) Try.underlying36 W.e40 (by decide) (by kernel_rfl) fun b hb hw => ?_
  have l1 : Mem.le M (M.set b (.row (#[] : Array Value).toList 40)) := Mem.le_set _ hb
  exact hK _ ⟨some ⟨b, 0, none⟩, 0, 0⟩ l1 (by simp) (Holds.newSlk h l1 (SlK.new (n := 0) hb (Own.new hw) rfl))
theorem newE {P : Asn} (h : Holds w0 F M P) (x y : Int) {K : Value → Mem → Prop} (hK : ∀ M' s', Mem.le M M' → Holds w0 F M' (star (Es s' [(x, y)]) P) → K s'.v M') : (std PP w0).bsl 36 1 [(0, .agg #[.int .i64 x, .int .i64 y])] K M := by
  refine bsl_e (n := 1) (cells := #[.int .i64 x, .int .i64 y]) Try.underlying36 W.e40 (by decide) (by kernel_rfl) fun b hb hw => ?_
  have l1 : Mem.le M (M.set b (.row (#[Value.int .i64 x, .int .i64 y] : Array Value).toList 40)) := Mem.le_set _ hb
  exact hK _ ⟨some ⟨b, 0, none⟩, 1, 1⟩ l1 (Holds.newSlk h l1 (SlK.new (n := 1) hb (Own.new hw) rfl))

/-- An entry is written. -/
theorem stE {s : SV} {l : List Ent} {Q : Asn} (h : Holds w0 F M (star (Es s l) Q)) {i : Int} (j : Nat) (e : i = (j : Int)) (hj : j < l.length) {x y : Int} {K : Mem → Prop} (hK : ∀ M', Holds w0 F M' (star (Es s (l.set j (x, y))) Q) → K M') :
    nc s.a fun a => (0 ≤ i ∧ i < ((s.n : Nat) : Int)) ∧ (std PP w0).st 40 (a.add (i.toNat * 2)) (.agg #[.int .i64 x, .int .i64 y]) (fun M' => K M') M := by
  subst e
  have hr := h.rdE
  obtain ⟨r, ⟨r1, r2, rfl, h1, h2⟩, h3⟩ := h
  rcases h1 with ⟨rfl, h0, _⟩ | ⟨b, rest, e, ha, hl, hl2, rfl⟩
  · have := hr.len; simp at this; omega
  · rw [ha, nc_v, Int.toNat_natCast, add_eq, Nat.zero_add]
    rw [esV_len] at hl hl2
    refine ⟨⟨by omega, by have := hr.len; omega⟩, ?_⟩
    refine st_agg (vs := [.int .i64 x, .int .i64 y]) W.g40 (h3.own List.mem_cons_self) (by rw [List.length_append, esV_len]; simp; omega) (fun v hv => by simp at hv; rcases hv with rfl | rfl <;> rfl) ?_
    refine hK _ ⟨_, ⟨_, r2, rfl, .inr ⟨b, rest, e, ha, by rw [esV_len, List.length_set]; exact hl, by rw [esV_len, List.length_set]; exact hl2, rfl⟩, h2⟩, ?_⟩
    have hov : over (esV l ++ rest) (j * 2) [.int .i64 x, .int .i64 y] = esV (l.set j (x, y)) ++ rest := by
      have h1 : l = l.take j ++ (l[j] :: l.drop (j + 1)) := by rw [← List.drop_eq_getElem_cons hj, List.take_append_drop]
      have h2 : l.set j (x, y) = l.take j ++ ((x, y) :: l.drop (j + 1)) := by rw [List.set_eq_take_append_cons_drop, if_pos hj]
      rw [h2, esV_append, esV_cons]
      conv => lhs; rw [h1, esV_append, esV_cons]
      have := over_mid (esV (l.take j)) [.int .i64 l[j].1, .int .i64 l[j].2] (esV (l.drop (j + 1)) ++ rest) [.int .i64 x, .int .i64 y] rfl (o := j * 2) (by rw [esV_len, List.length_take]; omega)
      simpa using this
    rw [hov]
    exact h3.upd
end
end Go.Proofs.Ytgnfbodlpolibaa.HL
