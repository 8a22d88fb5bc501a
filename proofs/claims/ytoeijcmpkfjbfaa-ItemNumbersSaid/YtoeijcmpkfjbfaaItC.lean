/-
  ItC: items are what the document says.
-/
import Derived.Test.YtoeijcmpkfjbfaaItB
import Derived.Test.YtoeijcmpkfjbfaaHlK
set_option linter.unusedVariables false
set_option linter.unusedSimpArgs false
set_option maxRecDepth 100000
namespace Go.Proofs.Ytoeijcmpkfjbfaa.HL
open Go.RowKit (Below)
open Go.Proofs

/-- Entries 0 to m-1, their numbers one behind the other. -/
def flatKS (m : Nat) (key ser : Nat → Int) : List Int := (List.range m).flatMap fun j => [key j, ser j]
theorem flatKS_succ (m : Nat) (key ser : Nat → Int) : flatKS (m + 1) key ser = flatKS m key ser ++ [key m, ser m] := by simp [flatKS, List.range_succ]
theorem flatKS_len (m : Nat) (key ser : Nat → Int) : (flatKS m key ser).length = m * 2 := by
  induction m with
  | zero => rfl
  | succ m ih => rw [flatKS_succ, List.length_append, ih]; simp; omega
theorem flatKS_get {m j : Nat} {key ser : Nat → Int} (h : j < m) : ∀ f x, [key j, ser j][f]? = some x → (flatKS m key ser)[j * 2 + f]? = some x := by
  induction m with
  | zero => omega
  | succ m ih =>
    intro f x hx
    have hf := (List.getElem?_eq_some_iff.1 hx).1
    simp only [List.length_cons, List.length_nil] at hf
    rw [flatKS_succ]
    by_cases hj : j < m
    · rw [List.getElem?_append_left (by rw [flatKS_len]; omega)]
      exact ih hj f x hx
    · have : j = m := by omega
      subst this
      rw [List.getElem?_append_right (by rw [flatKS_len]; omega), flatKS_len, show j * 2 + f - j * 2 = f from by omega]
      exact hx
theorem flatKS_set {m i : Nat} {key ser : Nat → Int} {v : Int} (h : i < m) : (flatKS m key ser).set (i * 2) v = flatKS m (fun j => if j = i then v else key j) ser := by
  induction m with
  | zero => omega
  | succ m ih =>
    rw [flatKS_succ, flatKS_succ]
    by_cases hi : i < m
    · rw [List.set_append_left _ _ (by rw [flatKS_len]; omega), ih hi]
      rw [if_neg (by omega)]
    · have : i = m := by omega
      subst this
      rw [List.set_append_right _ _ (by rw [flatKS_len]; omega), flatKS_len, Nat.sub_self, if_pos rfl]
      have e : flatKS i (fun j => if j = i then v else key j) ser = flatKS i key ser := by
        unfold flatKS
        rw [List.flatMap_def, List.flatMap_def]
        congr 1
        refine List.map_congr_left fun j hj => ?_
        have := List.mem_range.1 hj
        show [if j = i then v else key j, ser j] = [key j, ser j]
        rw [if_neg (by omega)]
      rw [e]; rfl
theorem flatKS_wf {m : Nat} {key ser : Nat → Int} (h : ∀ j, j < m → In64 (key j) ∧ In64 (ser j)) : ∀ x ∈ flatKS m key ser, (Lit.int .i64 x).wf = true := wf_all fun x hx => by
  obtain ⟨j, hj, hx⟩ := List.mem_flatMap.1 hx
  have := h j (List.mem_range.1 hj)
  simp at hx
  rcases hx with rfl | rfl
  · exact this.1
  · exact this.2

/-- Nodes too: node j, cell m + j, has the item at j. -/
structure ItN (α : AS) (m cnt : Nat) (key ser : Nat → Int) (at_ : Nat → Nat) : Prop where
  free : α.free = []
  never : α.never = m + cnt
  live : ∀ j, j < m + cnt → α.live j = true
  key : ∀ j, j < m → α.get j 7 = key j
  ser : ∀ j, j < m → α.get j 8 = ser j
  lt : ∀ j, j < cnt → at_ j < m
  inj : ∀ j k, j < cnt → k < cnt → at_ j = at_ k → j = k
  item : ∀ j, j < cnt → α.get (m + j) 6 = (at_ j : Int)
  node : ∀ j, j < cnt → α.get (at_ j) 9 = ((m + j : Nat) : Int)
theorem ItN.sm {k : Int} {α β : AS} {m cnt : Nat} {key ser : Nat → Int} {at_ : Nat → Nat} (h : ItN α m cnt key ser at_) (hs : AS.Sm k α β) : ItN β m cnt key ser at_ :=
  ⟨hs.free.trans h.free, hs.never.trans h.never, fun j hj => by rw [hs.live]; exact h.live j hj, fun j hj => by rw [hs.get]; exact h.key j hj, fun j hj => by rw [hs.get]; exact h.ser j hj, h.lt, h.inj, fun j hj => by rw [hs.get]; exact h.item j hj, fun j hj => by rw [hs.get]; exact h.node j hj⟩
theorem ItN.getK {α : AS} {m cnt : Nat} {key ser : Nat → Int} {at_ : Nat → Nat} (h : ItN α m cnt key ser at_) {j : Nat} (hj : j < m) : α.getI (j : Int) 7 = key j := (AS.getI_live (f := 7) (h.live j (by omega)) (by omega)).trans (h.key j hj)
theorem ItN.getS {α : AS} {m cnt : Nat} {key ser : Nat → Int} {at_ : Nat → Nat} (h : ItN α m cnt key ser at_) {j : Nat} (hj : j < m) : α.getI (j : Int) 8 = ser j := (AS.getI_live (f := 8) (h.live j (by omega)) (by omega)).trans (h.ser j hj)
theorem ItN.before {α : AS} {m cnt : Nat} {key ser : Nat → Int} {at_ : Nat → Nat} (h : ItN α m cnt key ser at_) {i j : Nat} (hi : i < m) (hj : j < m) : α.beforeI (i : Int) (j : Int) = (decide (cmpI (key i) (ser i) (key j) (ser j) < 0) || (cmpI (key i) (ser i) (key j) (ser j) == 0 && decide ((i : Int) < (j : Int)))) := by
  unfold AS.beforeI
  rw [h.getK hi, h.getS hi, h.getK hj, h.getS hj]
theorem put_get (α : AS) (c f : Nat) (v : Int) (x g : Nat) : (α.put c f v).get x g = if x = c ∧ g = f then v else α.get x g := rfl
/-- One more node, of the next item. -/
theorem ItN.more {α : AS} {m i : Nat} {key ser : Nat → Int} {at_ : Nat → Nat} (h : ItN α m i key ser at_) (hat : ∀ j, j < i → at_ j = j) (hi : i < m) (hn : m + i < α.n) : α.next = some (m + i) ∧ α.take.live (m + i) = true ∧ α.take.live i = true ∧ ItN ((α.take.put (m + i) 6 (i : Int)).put i 9 ((m + i : Nat) : Int)) m (i + 1) key ser (fun j => j) := by
  have hlt : α.never < α.n := by rw [h.never]; exact hn
  obtain ⟨h1, h2, h3⟩ := AS.take_fresh h.free hlt
  rw [h.never] at h1 h3
  have hg : ∀ j f, α.take.get j f = if j = m + i then AS.fresh f else α.get j f := by intro j f; rw [h3]; rfl
  have hl : ∀ j, α.take.live j = if j = m + i then true else α.live j := by intro j; rw [h3]; rfl
  refine ⟨h1, by rw [hl, if_pos rfl], by rw [hl]; split <;> first | rfl | exact h.live i (by omega), ?_⟩
  refine ⟨?_, ?_, fun j hj => ?_, fun j hj => ?_, fun j hj => ?_, fun j hj => by omega, fun j k _ _ e => e, fun j hj => ?_, fun j hj => ?_⟩
  · show α.take.free = []; rw [h3]; exact h.free
  · show α.take.never = _; rw [h3]; show m + i + 1 = _; omega
  · show α.take.live j = true
    rw [hl]; split
    · rfl
    · exact h.live j (by omega)
  · rw [put_get, if_neg (by omega), put_get, if_neg (by omega), hg, if_neg (by omega)]; exact h.key j hj
  · rw [put_get, if_neg (by omega), put_get, if_neg (by omega), hg, if_neg (by omega)]; exact h.ser j hj
  · rw [put_get, if_neg (by omega), put_get]
    by_cases e : j = i
    · subst e; rw [if_pos ⟨rfl, rfl⟩]
    · rw [if_neg (by omega), hg, if_neg (by omega)]
      have := h.item j (by omega)
      rw [hat j (by omega)] at this; exact this
  · rw [put_get]
    by_cases e : j = i
    · subst e; rw [if_pos ⟨rfl, rfl⟩]
    · rw [if_neg (by omega), put_get, if_neg (by omega), hg, if_neg (by omega)]
      have := h.node j (by omega)
      rw [hat j (by omega)] at this; exact this
/-- Two nodes change their items. -/
theorem ItN.swap {α : AS} {m : Nat} {key ser : Nat → Int} {at_ : Nat → Nat} (h : ItN α m m key ser at_) {x y : Nat} (hx : x < m) (hy : y < m) :
    ItN ((((α.put (m + x) 6 (at_ y : Int)).put (at_ y) 9 ((m + x : Nat) : Int)).put (m + y) 6 (at_ x : Int)).put (at_ x) 9 ((m + y : Nat) : Int)) m m key ser (fun j => if j = x then at_ y else if j = y then at_ x else at_ j) := by
  have lx := h.lt x hx
  have ly := h.lt y hy
  refine ⟨h.free, h.never, h.live, fun j hj => ?_, fun j hj => ?_, fun j hj => ?_, fun j k hj hk e => ?_, fun j hj => ?_, fun j hj => ?_⟩
  · rw [put_get, if_neg (by omega), put_get, if_neg (by omega), put_get, if_neg (by omega), put_get, if_neg (by omega)]; exact h.key j hj
  · rw [put_get, if_neg (by omega), put_get, if_neg (by omega), put_get, if_neg (by omega), put_get, if_neg (by omega)]; exact h.ser j hj
  · show (if j = x then at_ y else if j = y then at_ x else at_ j) < m
    split
    · exact ly
    · split
      · exact lx
      · exact h.lt j hj
  · have e1 := h.inj x y hx hy
    have e2 := h.inj j k hj hk
    have e3 := h.inj j x hj hx
    have e4 := h.inj j y hj hy
    have e5 := h.inj k x hk hx
    have e6 := h.inj k y hk hy
    by_cases j1 : j = x
    · rw [if_pos j1] at e
      by_cases k1 : k = x
      · omega
      · rw [if_neg k1] at e
        by_cases k2 : k = y
        · rw [if_pos k2] at e; have := e1 e.symm; omega
        · rw [if_neg k2] at e; have := e6 e.symm; omega
    · rw [if_neg j1] at e
      by_cases j2 : j = y
      · rw [if_pos j2] at e
        by_cases k1 : k = x
        · rw [if_pos k1] at e; have := e1 e; omega
        · rw [if_neg k1] at e
          by_cases k2 : k = y
          · omega
          · rw [if_neg k2] at e; have := e5 e.symm; omega
      · rw [if_neg j2] at e
        by_cases k1 : k = x
        · rw [if_pos k1] at e; have := e4 e; omega
        · rw [if_neg k1] at e
          by_cases k2 : k = y
          · rw [if_pos k2] at e; have := e3 e; omega
          · rw [if_neg k2] at e; exact e2 e
  · rw [put_get, if_neg (by omega), put_get]
    by_cases j2 : j = y
    · subst j2
      rw [if_pos ⟨rfl, rfl⟩]
      by_cases j1 : j = x
      · rw [if_pos j1, j1]
      · rw [if_neg j1, if_pos rfl]
    · rw [if_neg (by omega), put_get, if_neg (by omega), put_get]
      by_cases j1 : j = x
      · subst j1; rw [if_pos ⟨rfl, rfl⟩, if_pos rfl]
      · rw [if_neg (by omega), if_neg j1, if_neg j2]; exact h.item j hj
  · by_cases j1 : j = x
    · subst j1
      rw [if_pos rfl, put_get]
      by_cases exy : at_ y = at_ j
      · have := h.inj y j hy hj exy
        subst this
        rw [if_pos ⟨rfl, rfl⟩]
      · rw [if_neg (fun e => exy e.1), put_get, if_neg (by omega), put_get, if_pos ⟨rfl, rfl⟩]
    · rw [if_neg j1]
      by_cases j2 : j = y
      · subst j2
        rw [if_pos rfl, put_get, if_pos ⟨rfl, rfl⟩]
      · rw [if_neg j2, put_get, if_neg (fun e => j1 (h.inj j x hj hx e.1)), put_get, if_neg (by omega), put_get, if_neg (fun e => j2 (h.inj j y hj hy e.1)), put_get, if_neg (by omega)]
        exact h.node j hj

section
variable {w0 : World} {M F : Mem} {R : Value → Mem → Prop}

theorem refBefore_ok {a0 a1 b0 b1 : Int} (h : ∀ M', Mem.le M M' → R (.bool (decide (cmpI a0 a1 b0 b1 < 0))) M') : C PP w0 Id.thicketref1_Before #[.agg #[.int .i64 a0, .int .i64 a1], .agg #[.int .i64 b0, .int .i64 b1]] R M := by
  apply thicketref1_Before.go
  unfold thicketref1_Before.T
  intro x1 hx1 hw1
  intro x2 hx2 hw2
  have f1 := ((Fit.nil (w0 := w0) (Mem.le_refl M)).new hx1 hw1 (cs := [.int .i64 a0, .int .i64 a1]) (e := 62)).new hx2 hw2 (cs := [.int .i64 b0, .int .i64 b1]) (e := 62)
  have o2 := f1.own List.mem_cons_self
  have o1 := f1.own (List.mem_cons_of_mem _ List.mem_cons_self)
  have e1 : rd w0 _ ⟨x1, 0, none⟩ = some (.int .i64 a0) := rd_own (o := 0) o1
  have e2 : rd w0 _ ⟨x2, 0, none⟩ = some (.int .i64 b0) := rd_own (o := 0) o2
  have e3 : rd w0 _ ⟨x1, 1, none⟩ = some (.int .i64 a1) := rd_own (o := 1) o1
  have e4 : rd w0 _ ⟨x2, 1, none⟩ = some (.int .i64 b1) := rd_own (o := 1) o2
  have hle := f1.fr
  generalize (M.set x1 (.row [.int .i64 a0, .int .i64 a1] 62)).set x2 (.row [.int .i64 b0, .int .i64 b1] 62) = M1 at e1 e2 e3 e4 hle ⊢
  have hh := h M1 hle
  unfold cmpI at hh
  simp only [go_sem, add_eq, Nat.zero_add, e1, e2, e3, e4, bs_decide, bs_beq]
  by_cases h1 : a0 < b0
  · rw [if_pos h1] at hh ⊢
    exact hh
  · rw [if_neg h1] at hh ⊢
    by_cases h2 : a0 = b0
    · rw [if_pos h2]
      rw [if_neg (by omega)] at hh
      by_cases h3 : a1 < b1
      · rw [if_pos h3] at hh
        rw [decide_eq_true h3]; exact hh
      · rw [if_neg h3] at hh
        rw [decide_eq_false h3]
        split at hh <;> exact hh
    · rw [if_neg h2]
      rw [if_pos (by omega)] at hh
      exact hh

/-- A place that is read now and looked at later. -/
theorem rdx2 {M0 : Mem} {t : TypeId} (ht : cell1 PP t = true) {k : IntKind} {s : SV} {l : List Int} (h : RdI w0 M0 k s l) (hl : Mem.le M0 M) {i : Int} (j : Nat) (e : i = (j : Int)) {x : Int} (hx : l[j]? = some x) {K : Addr → Int → Prop}
    (hK : ∀ a, (∀ M', Mem.le M0 M' → (std PP w0).ld t (a.add (i.toNat * 1)) M' = some (.int k x)) → K a x) :
    nc s.a fun a => (0 ≤ i ∧ i < ((s.n : Nat) : Int)) ∧ ob ((std PP w0).ld t (a.add (i.toNat * 1)) M) fun v => shI k v fun n => K a n := by
  subst e
  obtain ⟨a, ea, hr⟩ := h.cell j x hx
  have hj := (List.getElem?_eq_some_iff.1 hx).1
  have hld : ∀ M', Mem.le M0 M' → (std PP w0).ld t (a.add ((j : Int).toNat * 1)) M' = some (.int k x) := fun M' hM => by
    rw [ld_one ht, Int.toNat_natCast, Nat.mul_one]; exact hr M' hM
  rw [ea, nc_v, hld M hl, ob_v, shI_v]
  exact ⟨⟨by omega, by rw [h.len]; omega⟩, hK a hld⟩

/-- An entry is put behind others. -/
theorem push2_ok {Q : Asn} {K : SV → Mem → Prop} {s : SV} {l : List Int} {x y : Int} (hH : Holds w0 F M (star (SlKA 2 s (l.map (Value.int .i64))) Q)) (hb : s.n ≤ 1000000) (h : ∀ M' s', Holds w0 F M' (star (SlKA 2 s' ((l ++ [x, y]).map (Value.int .i64))) Q) → s'.n = s.n + 1 → K s' M') :
    (std PP w0).bsl 59 1 [(0, .agg #[.int .i64 x, .int .i64 y])] (fun v M1 => shS v fun s1 => (std PP w0).app #[59, 59] 59 [SV.v s, SV.v s1] (fun v2 M2 => shS v2 fun s2 => K s2 M2) M1) M := by
  obtain ⟨F', h1, h2, h3⟩ := hH.slk
  refine bsl_e (cells := #[.int .i64 x, .int .i64 y]) Try.underlying59 W.e62 (by decide) (by kernel_rfl) fun b hb0 hw => ?_
  rw [shS_v]
  have l2 : Mem.le M (M.set b (.row (#[Value.int .i64 x, .int .i64 y] : Array Value).toList 62)) := Mem.le_set _ hb0
  have h4 : SlK w0 F' (M.set b (.row (#[Value.int .i64 x, .int .i64 y] : Array Value).toList 62)) 2 ⟨some ⟨b, 0, none⟩, 1, 1⟩ ([x, y].map (Value.int .i64)) := SlK.new (n := 1) (le_none h2 hb0) (Own.new hw) rfl
  refine app_slk (k := 2) Try.underlying59 W.e62 (Mem.le_trans h2 l2) (h1.le l2) (news := [x, y].map (Value.int .i64)) rfl h4.cells (fun e => (h4.none e).1) (ints_one _ _) (by decide) (by show s.n + 1 ≤ _; omega) fun M2 o2 l3 h5 hn5 => ?_
  rw [shS_sv]
  rw [← List.map_append] at h5
  exact h M2 o2 (h3 M2 o2 _ h5 l3) hn5

theorem range_wf (m : Nat) (hm : m ≤ 100000) : ∀ x ∈ intsN (List.range m), (Lit.int .i64 x).wf = true := intsN_wf (n := m) (fun x hx => List.mem_range.1 hx) (by omega)

theorem it_plays (hR : ∀ M, R (.bool true) M) {s x y : SV} {l lx ly : List Int} (hs : RdF w0 M 2 s l) (hsw : RdI w0 M .i64 x lx) (hky : RdI w0 M .i64 y ly) : C PP w0 Id.thicketlaw7_ItemPlays #[SV.v s, SV.v x, SV.v y] R M := by
  apply thicketlaw7_ItemPlays.go
  intro pts H
  unfold thicketlaw7_ItemPlays.T
  refine New_ok fun M1 a h1 => ?_
  simp only [go_sem, Option.isNone_some, bs_false]
  refine MeterSteps_ok (K := fun _ _ _ => True) h1 fun p hp _ => ?_
  have e1 : p.isNone = false := by cases p with
    | none => exact absurd rfl hp
    | some _ => rfl
  simp only [go_sem, e1, bs_false]
  rw [H.J1]
  unfold thicketlaw7_ItemPlays.J1.T
  have hend : ∀ M, (std PP w0).call Id.thicketlaw7_known #[] (fun v38 M39 => shB v38 fun b40 => R (.bool b40) M39) M := fun M => by
    refine known7_ok fun M' _ => ?_
    simp only [go_sem]
    exact hR _
  have hrange : ∀ m j, j < m → (intsN (List.range m))[j]? = some (j : Int) := fun m j hj => by simp [intsN, hj]
  -- five: all compared
  have five : ∀ (m : Nat) (F : Mem) (sm sc sn sa : SV) (key ser : Nat → Int) (at_ : Nat → Nat) (nodes : List Int), m ≤ 20 → (∀ j, j < m → nodes[j]? = some ((m + j : Nat) : Int)) → RdF w0 F 2 sm (flatKS m key ser) → RdI w0 F .i64 sc (intsN (List.range m)) → RdI w0 F .i64 sn nodes → RdI w0 F .i64 sa ((List.range m).map fun j => (at_ j : Int)) →
      ∀ (f i : Nat) (M' : Mem) (α : AS), m < i + f → i ≤ m → Holds w0 F M' (arenaA a α) → α.n = 60 → ItN α m m key ser at_ → thicketlaw7_ItemPlays.L12 pts f (some ⟨a, 0, none⟩) sm sc sn sa (i : Int) M' := by
    intro m F sm sc sn sa key ser at_ nodes hm hnodes rm rc rn ra f
    have lm := rm.len
    rw [flatKS_len] at lm
    have lm' : sm.n = m := by omega
    induction f with
    | zero => intro i M' α g1 g2; omega
    | succ f ih =>
      intro i M' α g1 g2 hA hαn hI
      rw [H.L12]
      unfold thicketlaw7_ItemPlays.L12.T
      rw [bs_decide]
      split
      · have hi : i < m := by omega
        have hfr := hA.fr
        refine rdx W.c3 rc hfr i rfl (hrange m i hi) ?_
        have hati : ((List.range m).map fun j => (at_ j : Int))[i]? = some (at_ i : Int) := by simp [hi]
        have hlt := hI.lt i hi
        obtain ⟨am, eam, hrm⟩ : ∃ am, sm.a = some am ∧ ∀ M2, Mem.le F M2 → (std PP w0).ld 62 (am.add ((i : Int).toNat * 2)) M2 = some (.agg #[.int .i64 (key i), .int .i64 (ser i)]) := by
          obtain ⟨am, eam, _⟩ := rm.cell _ _ (flatKS_get (ser := ser) (key := key) hi 0 _ rfl)
          refine ⟨am, eam, fun M2 hM2 => ?_⟩
          refine ld_agg (cs := [.int .i64 (key i), .int .i64 (ser i)]) W.g62 fun j v hj => ?_
          rw [Int.toNat_natCast, add_add]
          match j, hj with
          | 0, hj =>
            cases hj
            obtain ⟨a', ea', hr⟩ := rm.cell _ _ (flatKS_get (ser := ser) (key := key) hi 0 _ rfl)
            rw [eam] at ea'; cases ea'; exact hr M2 hM2
          | 1, hj =>
            cases hj
            obtain ⟨a', ea', hr⟩ := rm.cell _ _ (flatKS_get (ser := ser) (key := key) hi 1 _ rfl)
            rw [eam] at ea'; cases ea'; exact hr M2 hM2
          | j + 2, hj => simp at hj
        rw [eam]
        simp only [nc_v, hrm M' hfr, ob_v, shA_v, shCons_v, shI_v, shNil_v]
        refine ⟨by omega, ?_⟩
        refine Entry_ok hA fun M2 hA2 => ?_
        have hI2 := hI.sm (AS.tick_sm.trans AS.tick_sm)
        rw [hI.getK hi, hI.getS hi]
        simp only [go_sem, neE, beq_self_eq_true, Bool.and_self, Bool.not_true, bs_false]
        have hfr2 := hA2.fr
        have hrm2 := hrm M2 hfr2
        refine rdy rn hfr2 i rfl (hnodes i hi) ?_
        obtain ⟨aa, eaa, hraa⟩ := ra.cell i _ hati
        obtain ⟨ac, eac, hrac⟩ := rc.cell (at_ i) _ (hrange m (at_ i) hlt)
        obtain ⟨an, ean, hran⟩ := rn.cell i _ (hnodes i hi)
        have la := ra.len
        have lc := rc.len
        have ln := rn.len
        simp only [intsN, List.length_map, List.length_range] at la lc
        have hni : i < nodes.length := (List.getElem?_eq_some_iff.1 (hnodes i hi)).1
        simp only [eaa, eac, ean, nc_v, Int.toNat_natCast, Nat.mul_one, hraa M2 hfr2, hrac M2 hfr2, ob_v, shI_v]
        refine ⟨⟨by omega, by omega⟩, ⟨by omega, by omega⟩, hrm2, ?_⟩
        have hnode : AS.cellI α.tick.tick ((m + i : Nat) : Int) 6 = (at_ i : Int) := AS.cellI_live (α := α.tick.tick) (f := 6) (hI2.live (m + i) (by omega)) (by omega) (hI2.item i hi) (by show at_ i < α.n; omega)
        refine Cell_ok hA2 fun M3 hA3 => ?_
        rw [hnode]
        have hfr3 := hA3.fr
        simp only [go_sem, bs_bne, Int.toNat_natCast, Nat.mul_one, hraa M3 hfr3, hrac M3 hfr3, hran M3 hfr3]
        rw [if_pos (by trivial)]
        refine ⟨⟨by omega, by omega⟩, ⟨by omega, by omega⟩, ⟨by omega, by omega⟩, by trivial, by trivial, ?_⟩
        have hI3 := hI2.sm AS.tick_sm
        refine Node_ok hA3 fun M4 hA4 => ?_
        have hnode2 : AS.cellI α.tick.tick.tick (at_ i : Int) 9 = ((m + i : Nat) : Int) := AS.cellI_live (α := α.tick.tick.tick) (f := 9) (hI3.live (at_ i) (by omega)) (by omega) (hI3.node i hi) (by show m + i < α.n; omega)
        rw [hnode2]
        simp only [go_sem, hran M4 hA4.fr]
        refine ⟨by trivial, ?_⟩
        rw [if_pos (by trivial), H.J14]
        unfold thicketlaw7_ItemPlays.J14.T
        have hI4 := hI3.sm AS.tick_sm
        -- with each
        have six : ∀ (f' k : Nat) (M' : Mem) (α : AS), m < k + f' → k ≤ m → Holds w0 F M' (arenaA a α) → α.n = 60 → ItN α m m key ser at_ → thicketlaw7_ItemPlays.L15 pts f f' (some ⟨a, 0, none⟩) sm sc sn sa (i : Int) (k : Int) M' := by
          intro f'
          induction f' with
          | zero => intro k M' α g1 g2; omega
          | succ f' ih' =>
            intro k M' α g3 g4 hA hαn hI
            rw [H.L15]
            unfold thicketlaw7_ItemPlays.L15.T
            rw [bs_decide]
            split
            · have hk : k < m := by omega
              have hfr := hA.fr
              refine rdfA (cs := [key i, ser i]) W.g62 rm hfr i rfl (by omega) (by simp) (flatKS_get hi) ?_
              simp only [List.map_cons, List.map_nil, shA_v, shCons_v, shI_v, shNil_v]
              refine rdfA (cs := [key k, ser k]) W.g62 rm hfr k rfl (by omega) (by simp) (flatKS_get hk) ?_
              simp only [List.map_cons, List.map_nil, shA_v, shCons_v, shI_v, shNil_v]
              refine refBefore_ok fun M2 l2 => ?_
              have hA2 := hA.le l2
              have hfr2 := hA2.fr
              have last : ∀ want : Bool, want = α.beforeI (i : Int) (k : Int) → thicketlaw7_ItemPlays.J16 pts f f' (some ⟨a, 0, none⟩) sm sc sn sa (i : Int) (k : Int) want M2 := by
                intro want hw
                rw [H.J16]
                unfold thicketlaw7_ItemPlays.J16.T
                refine rdx W.c3 rc hfr2 i rfl (hrange m i hi) ?_
                refine rdx W.c3 rc hfr2 k rfl (hrange m k hk) ?_
                refine Before_ok hA2 fun M3 hA3 => ?_
                rw [hw]
                simp only [go_sem, beq_self_eq_true, Bool.not_true, bs_false]
                rw [w64_in (by omega)]
                exact ih' (k + 1) M3 _ (by omega) (by omega) hA3 hαn (hI.sm (((AS.tick_sm.trans AS.tick_sm).trans AS.tick_sm).trans AS.tick_sm))
              have hbe := hI.before hi hk
              obtain ⟨c1, c2⟩ := cmpI_anti (key i) (ser i) (key k) (ser k)
              rw [shB_v, bs_decide]
              split
              · rename_i hc
                exact last true (by rw [hbe, decide_eq_true hc]; rfl)
              · rename_i hc
                refine rdfA (cs := [key i, ser i]) W.g62 rm hfr2 i rfl (by omega) (by simp) (flatKS_get hi) ?_
                simp only [List.map_cons, List.map_nil, shA_v, shCons_v, shI_v, shNil_v]
                refine rdfA (cs := [key k, ser k]) W.g62 rm hfr2 k rfl (by omega) (by simp) (flatKS_get hk) ?_
                simp only [List.map_cons, List.map_nil, shA_v, shCons_v, shI_v, shNil_v, eqE, ob_v, shB_v]
                rw [bs_b]
                refine ⟨fun he => ?_, fun he => ?_⟩
                · simp only [Bool.and_eq_true, beq_iff_eq] at he
                  have hz := c2.2 he
                  refine rdx W.c3 rc hfr2 i rfl (hrange m i hi) ?_
                  refine rdx W.c3 rc hfr2 k rfl (hrange m k hk) ?_
                  refine last _ ?_
                  rw [hbe, hz]; simp
                · refine last false ?_
                  have hz : (cmpI (key i) (ser i) (key k) (ser k) == 0) = false := by
                    simp only [beq_eq_false_iff_ne, ne_eq]
                    intro e
                    have := c2.1 e
                    simp [this] at he
                  rw [hbe, decide_eq_false hc, hz]; rfl
            · rw [w64_in (by omega)]
              exact ih (i + 1) M' α (by omega) (by omega) hA hαn hI
        exact ⟨m + 1, six (m + 1) 0 M4 _ (by omega) (by omega) hA4 hαn hI4⟩
      · exact hend _
  -- four: nodes change their items
  have four : ∀ (m : Nat) (F : Mem) (sm sc sn sa : SV) (key ser : Nat → Int) (nodes : List Int), m ≤ 20 → (∀ j, j < m → nodes[j]? = some ((m + j : Nat) : Int)) → nodes.length = m → Mem.le M F → RdF w0 F 2 sm (flatKS m key ser) → RdI w0 F .i64 sc (intsN (List.range m)) → RdI w0 F .i64 sn nodes →
      ∀ (f i : Nat) (M' : Mem) (α : AS) (at_ : Nat → Nat), 40 < i + f → i ≤ 40 → α.n = 60 → α.steps ≤ 1000 + 10 * (i : Int) → Holds w0 F M' (star (SlA sa (((List.range m).map fun j => (at_ j : Int)).map (Value.int .i64))) (arenaA a α)) → ItN α m m key ser at_ → thicketlaw7_ItemPlays.L11 pts f x (some ⟨a, 0, none⟩) sm sc sn sa (i : Int) M' := by
    intro m F sm sc sn sa key ser nodes hm hnodes hnl hMF rm rc rn f
    have lm := rm.len
    rw [flatKS_len] at lm
    have lm' : sm.n = m := by omega
    induction f with
    | zero => intro i M' α at_ g1 g2; omega
    | succ f ih =>
      intro i M' α at_ g1 g2 hαn hst hH hI
      have hwa : ∀ n ∈ (List.range m).map fun j => (at_ j : Int), (Lit.int .i64 n).wf = true := wf_all fun z hz => by
        obtain ⟨j, hj, rfl⟩ := List.mem_map.1 hz
        have := hI.lt j (List.mem_range.1 hj)
        unfold In64; omega
      have hfin : thicketlaw7_ItemPlays.J10 pts (some ⟨a, 0, none⟩) sm sc sn sa M' := by
        rw [H.J10]
        unfold thicketlaw7_ItemPlays.J10.T
        obtain ⟨F', hl, hA, ra⟩ := hH.freeze hwa (by simp; omega)
        refine ⟨m + 1, five m F' sm sc sn sa key ser at_ nodes hm hnodes (rm.le hl) (rc.le hl) (rn.le hl) ra (m + 1) 0 M' α (by omega) (by omega) hA hαn hI⟩
      rw [H.L11]
      unfold thicketlaw7_ItemPlays.L11.T
      have ei : w64 ((i : Int) + 1) = ((i + 1 : Nat) : Int) := by rw [w64_in (by omega)]; omega
      rw [ei]
      simp only [bs_decide]
      split
      · split
        · split
          · rename_i hi1 hi40 hm0
            rw [H.J13]
            unfold thicketlaw7_ItemPlays.J13.T
            rw [ei]
            have hfr := hH.fr
            have lsw := hsw.len
            have hsw' := hsw.le hMF
            have hx1 : i < lx.length := by omega
            have hx2 : i + 1 < lx.length := by omega
            have b1 := hsw.in64 hx1
            have b2 := hsw.in64 hx2
            have ex1 := List.getElem?_eq_getElem hx1
            have ex2 := List.getElem?_eq_getElem hx2
            generalize lx[i] = u1 at b1 ex1
            generalize lx[i + 1] = u2 at b2 ex2
            refine rdx W.c3 hsw' hfr i rfl ex1 ?_
            refine rdx2 W.c3 hsw' hfr (i + 1) rfl ex2 fun ax hax => ?_
            rw [w64_in (n := ((sm.n : Nat) : Int) - 1) (by omega)]
            refine Within_ok b1 (by omega) (by omega) (by omega) (by omega) fun p hp1 hp2 => ?_
            obtain ⟨p, rfl⟩ : ∃ k : Nat, p = (k : Int) := ⟨p.toNat, by omega⟩
            rw [shI_v]
            refine ⟨hax M' hfr, ?_⟩
            refine Within_ok b2 (by omega) (by omega) (by omega) (by omega) fun q hq1 hq2 => ?_
            obtain ⟨q, rfl⟩ : ∃ k : Nat, q = (k : Int) := ⟨q.toNat, by omega⟩
            rw [shI_v]
            have hp : p < m := by omega
            have hq : q < m := by omega
            obtain ⟨F', hB, _, back⟩ := hH.last
            refine MeterSteps_ok (K := fun _ _ _ => True) hB fun pp _ hpp => ?_
            rw [shP_v]
            refine hpp.mono fun v M2 hv => ?_
            obtain ⟨rfl, rfl⟩ := hv
            rw [shI_v]
            refine rdx W.c3 rn hfr p rfl (hnodes p hp) ?_
            refine rdx W.c3 rn hfr q rfl (hnodes q hq) ?_
            refine Swap_ok hB (hI.live (m + p) (by omega)) (hI.live (m + q) (by omega)) (hI.live (at_ p) (by have := hI.lt p hp; omega)) (hI.live (at_ q) (by have := hI.lt q hq; omega)) (hI.item p hp) (hI.item q hq) fun M3 β hB3 hs3 => ?_
            have hH3 := back M3 _ hB3
            have hI3 := (hI.swap hp hq).sm hs3
            have hsteps := hs3.steps hB.inv.steps.1
            have hst0 := hB.inv.steps.1
            have hsteps' : 0 ≤ β.steps ∧ β.steps ≤ α.steps + 6 := hsteps
            refine MeterSteps_ok (K := fun _ _ _ => True) hB3 fun pp _ hpp => ?_
            rw [shP_v]
            refine hpp.mono fun v M4 hv => ?_
            obtain ⟨rfl, rfl⟩ := hv
            rw [shI_v, w64_in (n := β.steps - α.steps) (by omega), bs_decide, if_neg (by omega)]
            have hra := hH3.rdI hwa (by simp; omega)
            have hap : ((List.range m).map fun j => (at_ j : Int))[p]? = some (at_ p : Int) := by simp [hp]
            have haq : ((List.range m).map fun j => (at_ j : Int))[q]? = some (at_ q : Int) := by simp [hq]
            refine rdx W.c3 hra (Mem.le_refl _) q rfl haq ?_
            refine rdx W.c3 hra (Mem.le_refl _) p rfl hap ?_
            refine st1 W.c3 hH3 p rfl (by simp; omega) rfl rfl fun M4 hH4 => ?_
            refine st1 W.c3 hH4 q rfl (by simp; omega) rfl rfl fun M5 hH5 => ?_
            have eat : ((((List.range m).map fun j => (at_ j : Int)).map (Value.int .i64)).set p (.int .i64 (at_ q : Int))).set q (.int .i64 (at_ p : Int)) = ((List.range m).map fun j => ((if j = p then at_ q else if j = q then at_ p else at_ j : Nat) : Int)).map (Value.int .i64) := by
              rw [← List.map_set, ← List.map_set]
              congr 1
              apply List.ext_getElem?
              intro j
              rw [List.getElem?_set, List.getElem?_set]
              simp only [List.length_set, List.length_map, List.length_range, List.getElem?_map]
              by_cases hj : j < m
              · rw [List.getElem?_range hj]
                by_cases j2 : q = j
                · subst j2
                  rw [if_pos rfl, if_pos hj]
                  by_cases j1 : q = p
                  · subst j1; simp
                  · simp [j1]
                · rw [if_neg j2]
                  by_cases j1 : p = j
                  · subst j1; simp [hp]
                  · rw [if_neg j1]; simp [Ne.symm j1, Ne.symm j2]
              · rw [if_neg (by omega), if_neg (by omega)]
                rw [List.getElem?_eq_none (by simp; omega)]; rfl
            rw [eat] at hH5
            exact ih (i + 1) M5 β _ (by omega) (by omega) (hs3.n.trans hαn) (by omega) hH5 hI3
          · exact hfin
        · exact hfin
      · exact hfin
  -- three: nodes
  have three : ∀ (m : Nat) (F : Mem) (sm sc sa : SV) (key ser : Nat → Int), m ≤ 20 → Mem.le M F → RdF w0 F 2 sm (flatKS m key ser) → RdI w0 F .i64 sc (intsN (List.range m)) →
      ∀ (f i : Nat) (M' : Mem) (α : AS) (sn : SV) (rest : Nat → Int), m < i + f → i ≤ m → α.n = 60 → α.steps ≤ 200 + 10 * (i : Int) → Holds w0 F M' (star (SlA sn (((List.range i).map fun j => ((m + j : Nat) : Int)).map (Value.int .i64))) (star (SlA sa (((List.range m).map fun j => if j < i then (j : Int) else rest j).map (Value.int .i64))) (arenaA a α))) → ItN α m i key ser (fun j => j) →
      thicketlaw7_ItemPlays.L7 pts f x (some ⟨a, 0, none⟩) sm sc sn sa (i : Int) M' := by
    intro m F sm sc sa key ser hm hMF rm rc f
    have lm := rm.len
    rw [flatKS_len] at lm
    have lm' : sm.n = m := by omega
    induction f with
    | zero => intro i M' α sn rest g1 g2; omega
    | succ f ih =>
      intro i M' α sn rest g1 g2 hαn hst hH hI
      rw [H.L7]
      unfold thicketlaw7_ItemPlays.L7.T
      rw [bs_decide]
      split
      · have hi : i < m := by omega
        obtain ⟨hnx, hl1, hl2, hmore⟩ := hI.more (fun _ _ => rfl) hi (by omega)
        obtain ⟨F', hB, _, back⟩ := hH.last3
        refine Take_ok hB fun M2 hB2 => ?_
        rw [hnx, show α.nextI = ((m + i : Nat) : Int) from by unfold AS.nextI; rw [hnx]]
        simp only [go_sem, Option.isSome_some, Bool.not_true, bs_false]
        have hfr2 : Mem.le F M2 := (back M2 _ hB2).fr
        refine rdy rc hfr2 i rfl (hrange m i hi) ?_
        refine ItPut_ok hB2 (by exact hl1) (by exact hl2) fun M3 β hB3 hs3 => ?_
        have hH3 := back M3 _ hB3
        have hI3 := hmore.sm ((AS.tick_sm.put (m + i) 6 (i : Int)).put i 9 ((m + i : Nat) : Int))
        have hI3' := hI3.sm hs3
        have hst0 := hB.inv.steps.1
        have hstk := (AS.tick_sm (α := α.take)).steps (by
          have := (AS.take_inv hB.inv).steps.1; exact this)
        have htk : α.take.steps = α.steps := by unfold AS.take; split <;> (try split) <;> rfl
        have hs3s := hs3.steps hstk.1
        have hs3s' : 0 ≤ β.steps ∧ β.steps ≤ α.take.tick.steps + 2 := hs3s
        refine push_ok hH3 (by simp; omega) fun M4 s4 hH4 => ?_
        refine st1 W.c3 hH4.rot i rfl (by simp; omega) rfl rfl fun M5 hH5 => ?_
        have e1 : ((List.range i).map fun j => ((m + j : Nat) : Int)) ++ [((m + i : Nat) : Int)] = (List.range (i + 1)).map fun j => ((m + j : Nat) : Int) := by rw [List.range_succ]; simp
        have e2 : (((List.range m).map fun j => if j < i then (j : Int) else rest j).map (Value.int .i64)).set i (.int .i64 (i : Int)) = ((List.range m).map fun j => if j < i + 1 then (j : Int) else rest j).map (Value.int .i64) := by
          rw [← List.map_set]
          congr 1
          apply List.ext_getElem?
          intro j
          rw [List.getElem?_set]
          simp only [List.length_map, List.length_range, List.getElem?_map]
          by_cases hj : j < m
          · rw [List.getElem?_range hj]
            by_cases j1 : i = j
            · subst j1; simp [hj]
            · rw [if_neg j1]
              simp only [Option.map_some]
              by_cases j2 : j < i
              · rw [if_pos j2, if_pos (by omega)]
              · rw [if_neg j2, if_neg (by omega)]
          · rw [if_neg (by omega), List.getElem?_eq_none (by simp; omega)]; rfl
        have hH5' := hH5.rot
        rw [e1, e2] at hH5'
        rw [w64_in (by omega)]
        refine ih (i + 1) M5 β s4 rest (by omega) (by omega) ?_ (by omega) hH5' hI3'
        rw [hs3.n]
        show α.take.n = 60
        unfold AS.take
        split
        · exact hαn
        · split <;> exact hαn
      · have him : i = m := by omega
        subst him
        obtain ⟨F', hl, hA, rn⟩ := hH.freeze (wf_all fun z hz => by
          obtain ⟨j, hj, rfl⟩ := List.mem_map.1 hz
          have := List.mem_range.1 hj
          unfold In64; omega) (by simp; omega)
        have e2 : ((List.range i).map fun (j : Nat) => if j < i then (j : Int) else rest j) = (List.range i).map fun (j : Nat) => (j : Int) := List.map_congr_left fun j hj => if_pos (List.mem_range.1 hj)
        rw [e2] at hA
        refine ⟨41, four i F' sm sc sn sa key ser _ hm (fun j hj => by simp [hj]) (by simp) (Mem.le_trans hMF hl) (rm.le hl) (rc.le hl) rn 41 0 M' α (fun j => j) (by omega) (by omega) hαn (by omega) hA hI⟩
  -- two: keys
  have two : ∀ (m : Nat) (F : Mem) (sm sc : SV) (ser : Nat → Int), m ≤ 20 → Mem.le M F → RdI w0 F .i64 sc (intsN (List.range m)) → (∀ j, j < m → In64 (ser j)) → sm.n = m →
      ∀ (f i : Nat) (M' : Mem) (α : AS) (key : Nat → Int), m < i + f → i ≤ m → α.n = 60 → α.steps ≤ 100 + 2 * (i : Int) → (∀ j, j < m → In64 (key j)) → Holds w0 F M' (star (SlKA 2 sm ((flatKS m key ser).map (Value.int .i64))) (arenaA a α)) → Its α m key ser →
      thicketlaw7_ItemPlays.L5 pts f x y (some ⟨a, 0, none⟩) sm sc (i : Int) M' := by
    intro m F sm sc ser hm hMF rc hser lm' f
    induction f with
    | zero => intro i M' α key g1 g2; omega
    | succ f ih =>
      intro i M' α key g1 g2 hαn hst hkey hH hI
      have hwf : ∀ n ∈ flatKS m key ser, (Lit.int .i64 n).wf = true := flatKS_wf fun j hj => ⟨hkey j hj, hser j hj⟩
      have hfin : thicketlaw7_ItemPlays.J4 pts x (some ⟨a, 0, none⟩) sm sc M' := by
        rw [H.J4]
        unfold thicketlaw7_ItemPlays.J4.T
        obtain ⟨F', hl, hA, rm⟩ := hH.freezeK (by decide) hwf (by omega)
        obtain ⟨i0, hi0, hz0, z1, z2, z3, z4⟩ := W.e3
        refine mks_ok Try.underlying44 hi0 hz0 (by rw [z1]; exact z2) (Nat.le_refl _) (Nat.le_trans (Nat.mul_le_mul z4 (show sm.n ≤ 1000 by omega)) (by decide)) (by omega) fun b hb hw => ?_
        rw [shS_v]
        have hsl : Sl w0 M' (M'.set b (.row (zeros (.int .i64 0) sm.n) 3)) ⟨some ⟨b, 0, none⟩, sm.n, sm.n⟩ (((List.range m).map fun (j : Nat) => if j < 0 then (j : Int) else 0).map (Value.int .i64)) := by
          refine .inr ⟨b, [], 3, by simp [lm'], hb, ?_⟩
          rw [zeros_one (by rfl), List.append_nil, lm']
          have e : (((List.range m).map fun (j : Nat) => if j < 0 then (j : Int) else 0).map (Value.int .i64)) = List.replicate m (.int .i64 0) := by
            apply List.ext_getElem
            · simp
            · intro j h1 h2
              simp
          rw [e]
          exact Own.new hw
        have hH2 := (hA.newSl (Mem.le_set _ hb) hsl).nilSl
        refine ⟨m + 1, three m F' sm sc _ key ser hm (Mem.le_trans hMF hl) rm (rc.le hl) (m + 1) 0 _ α ⟨none, 0, 0⟩ (fun _ => 0) (by omega) (by omega) hαn (by omega) hH2 ⟨hI.free, hI.never, hI.live, hI.key, hI.ser, fun j hj => by omega, fun j k hj => by omega, fun j hj => by omega, fun j hj => by omega⟩⟩
      rw [H.L5]
      unfold thicketlaw7_ItemPlays.L5.T
      simp only [bs_decide]
      split
      · split
        · rename_i hi1 hi2
          rw [H.J8]
          unfold thicketlaw7_ItemPlays.J8.T
          have hi : i < m := by omega
          have lky := hky.len
          have hky' := hky.le hMF
          have hx1 : i < ly.length := by omega
          have b1 := hky.in64 hx1
          have ex1 := List.getElem?_eq_getElem hx1
          generalize ly[i] = kv at b1 ex1
          have hfr := hH.fr
          have rm := hH.rdF (by decide) hwf (by omega)
          refine rdx W.c2 hky' hfr i rfl ex1 ?_
          refine rdf0L W.c2 rm (Mem.le_refl _) i rfl (by omega) (flatKS_get hi 0 _ rfl) ?_
          refine rdx W.c3 rc hfr i rfl (hrange m i hi) ?_
          refine rdx W.c2 hky' hfr i rfl ex1 ?_
          obtain ⟨F', hB, _, back⟩ := hH.last
          have hgk := hI.getK hi
          have hnx : ∀ (M2 : Mem) (β : AS) (key2 : Nat → Int), Holds w0 F M2 (star (SlKA 2 sm ((flatKS m key2 ser).map (Value.int .i64))) (arenaA a β)) → β.n = 60 → β.steps ≤ α.steps + 2 → (∀ j, j < m → In64 (key2 j)) → Its β m key2 ser → thicketlaw7_ItemPlays.L5 pts f x y (some ⟨a, 0, none⟩) sm sc (w64 ((i : Int) + 1)) M2 := by
            intro M2 β key2 hH2 e1 e2 e3 e4
            rw [w64_in (by omega)]
            exact ih (i + 1) M2 β key2 (by omega) (by omega) e1 (by omega) e3 hH2 e4
          refine Lower_ok hB (fun hlt M2 hB2 => ?_) (fun hle M2 hB2 => ?_)
          · rw [hgk] at hlt
            have hd : decide (kv ≤ key i) = false := decide_eq_false (by omega)
            simp only [shB_v, W.neb4, ob_v, hd, beq_self_eq_true, Bool.not_true, bs_false]
            have hs := (AS.tick_sm (α := α)).steps hB.inv.steps.1
            exact hnx M2 _ key (back M2 _ hB2) hαn (by omega) hkey (hI.sm AS.tick_sm)
          · rw [hgk] at hle
            have hd : decide (kv ≤ key i) = true := decide_eq_true hle
            rw [show α.hasI (i : Int) 7 = true from AS.hasI_live (f := 7) (hI.live i hi) (by omega)]
            rw [show α.tick.setI (i : Int) 7 kv = α.tick.put i 7 kv from AS.setI_live (α := α.tick) (f := 7) (hI.live i hi) (by omega) _] at hB2
            simp only [shB_v, W.neb4, ob_v, hd, beq_self_eq_true, Bool.not_true, bs_false]
            rw [bs_true]
            have hH2 := back M2 _ hB2
            have hfr2 := hH2.fr
            refine rdx W.c2 hky' hfr2 i rfl ex1 ?_
            refine stK0 W.c2 hH2 i rfl (by omega) (by decide) rfl rfl fun M3 hH3 => ?_
            rw [← List.map_set, flatKS_set hi] at hH3
            have hs := ((AS.tick_sm (α := α)).put i 7 kv).trans AS.tick_sm |>.steps hB.inv.steps.1
            refine hnx M3 _ (fun j => if j = i then kv else key j) hH3 hαn ?_ (fun j hj => ?_) ?_
            · have hs2 : 0 ≤ (α.tick.put i 7 kv).tick.steps ∧ (α.tick.put i 7 kv).tick.steps ≤ α.steps + (1 + 1) := hs
              omega
            · show In64 (if j = i then kv else key j)
              split
              · exact b1
              · exact hkey j hj
            · refine ⟨hI.free, hI.never, hI.live, fun j hj => ?_, fun j hj => ?_, fun j hj => ?_⟩
              · show (if j = i ∧ 7 = 7 then kv else α.get j 7) = if j = i then kv else key j
                by_cases e : j = i
                · simp [e]
                · simp only [if_neg e]; rw [if_neg (fun hh => e hh.1)]; exact hI.key j hj
              · show (if j = i ∧ 8 = 7 then kv else α.get j 8) = _
                rw [if_neg (fun hh => by cases hh.2)]; exact hI.ser j hj
              · show (if j = i ∧ 9 = 7 then kv else α.get j 9) = _
                rw [if_neg (fun hh => by cases hh.2)]; exact hI.node j hj
        · exact hfin
      · exact hfin
  -- one: the items
  have one : ∀ (f i : Nat) (M' : Mem) (α : AS) (sm sc : SV) (key ser : Nat → Int), 20 < i + f → i ≤ 20 → α.n = 60 → α.steps ≤ 5 * (i : Int) → sm.n = i → (∀ j, j < i → In64 (key j) ∧ In64 (ser j)) → Holds w0 M M' (star (SlKA 2 sm ((flatKS i key ser).map (Value.int .i64))) (star (SlA sc ((intsN (List.range i)).map (Value.int .i64))) (arenaA a α))) → Its α i key ser →
      thicketlaw7_ItemPlays.L3 pts f s x y (some ⟨a, 0, none⟩) sm sc (i : Int) M' := by
    intro f
    induction f with
    | zero => intro i M' α sm sc key ser g1 g2; omega
    | succ f ih =>
      intro i M' α sm sc key ser g1 g2 hαn hst hsn hks hH hI
      have hfin : thicketlaw7_ItemPlays.J2 pts x y (some ⟨a, 0, none⟩) sm sc M' := by
        rw [H.J2]
        unfold thicketlaw7_ItemPlays.J2.T
        obtain ⟨F', hl, hA, rc⟩ := hH.rot.freeze (range_wf i (by omega)) (by simp [intsN]; omega)
        exact ⟨i + 1, two i F' sm sc ser g2 hl rc (fun j hj => (hks j hj).2) hsn (i + 1) 0 M' α key (by omega) (by omega) hαn (by omega) (fun j hj => (hks j hj).1) hA hI⟩
      rw [H.L3]
      unfold thicketlaw7_ItemPlays.L3.T
      simp only [bs_decide]
      split
      · split
        · rename_i hi1 hi2
          rw [H.J6]
          unfold thicketlaw7_ItemPlays.J6.T
          have hi : i < s.n := by omega
          obtain ⟨x0, ex0, bx0⟩ := hs.get (f := 0) hi (by omega)
          obtain ⟨x1, ex1, bx1⟩ := hs.get (f := 1) hi (by omega)
          have hfr := hH.fr
          obtain ⟨F', hB, _, back⟩ := hH.last3
          refine MeterSteps_ok (K := fun _ _ _ => True) hB fun pp _ hpp => ?_
          rw [shP_v]
          refine hpp.mono fun v M2 hv => ?_
          obtain ⟨rfl, rfl⟩ := hv
          rw [shI_v]
          refine rdf0L W.c2 hs hfr i rfl hi ex0 ?_
          refine rdfL W.c2 hs hfr i rfl hi ex1 ?_
          obtain ⟨hnx, hI2, hn2⟩ := hI.new (k := x0) (s := x1) (by omega)
          refine ItNew_ok hB (fun e => by rw [hnx] at e; cases e) fun c hc M3 β hB3 hs3 => ?_
          rw [hnx] at hc
          injection hc with hc
          subst hc
          simp only [shT_v, shCons_v, shI_v, shB_v, shNil_v, Bool.not_true, bs_false]
          have hst0 := hB.inv.steps.1
          have htk : α.take.steps = α.steps := by unfold AS.take; split <;> (try split) <;> rfl
          have hss : 0 ≤ β.steps ∧ β.steps ≤ α.take.steps + 3 := hs3.steps (by show 0 ≤ α.take.steps; omega)
          refine MeterSteps_ok (K := fun _ _ _ => True) hB3 fun pp _ hpp => ?_
          rw [shP_v]
          refine hpp.mono fun v M4 hv => ?_
          obtain ⟨rfl, rfl⟩ := hv
          rw [shI_v, w64_in (n := β.steps - α.steps) (by omega), bs_decide, if_neg (by omega)]
          have hI3 := hI2.sm hs3
          refine Node_ok hB3 fun M5 hB5 => ?_
          have hnode : β.cellI (i : Int) 9 = -1 := by
            unfold AS.cellI
            have e : β.getI (i : Int) 9 = -1 := (AS.getI_live (f := 9) (hI3.live i (by omega)) (by omega)).trans (hI3.node i (by omega))
            rw [e, if_pos (.inl (by decide))]
          rw [hnode, shI_v, bs_bne, if_pos rfl, H.J9]
          unfold thicketlaw7_ItemPlays.J9.T
          have hH5 := back M5 _ hB5
          refine rdfA (cs := [x0, x1]) W.g62 hs hH5.fr i rfl hi (by simp) (fun f v hv => by
            match f, hv with
            | 0, hv => cases hv; exact ex0
            | 1, hv => cases hv; exact ex1
            | f + 2, hv => simp at hv) ?_
          simp only [List.map_cons, List.map_nil, shA_v, shCons_v, shI_v, shNil_v]
          refine push2_ok hH5 (by omega) fun M6 s6 hH6 hn6 => ?_
          refine push_ok hH6.rot (by simp [intsN]; omega) fun M7 s7 hH7 => ?_
          have hH7' := hH7.rot
          have e1 : intsN (List.range i) ++ [(i : Int)] = intsN (List.range (i + 1)) := by rw [List.range_succ]; simp [intsN]
          have e2 : flatKS i key ser ++ [x0, x1] = flatKS (i + 1) (fun j => if j = i then x0 else key j) (fun j => if j = i then x1 else ser j) := by
            rw [flatKS_succ, if_pos rfl, if_pos rfl]
            congr 1
            unfold flatKS
            rw [List.flatMap_def, List.flatMap_def]
            congr 1
            refine List.map_congr_left fun j hj => ?_
            have := List.mem_range.1 hj
            show _ = [if j = i then x0 else key j, if j = i then x1 else ser j]
            rw [if_neg (by omega), if_neg (by omega)]
          rw [e1, e2] at hH7'
          rw [w64_in (by omega)]
          have hst5 := (AS.tick_sm (α := β)).steps hss.1
          refine ih (i + 1) M7 β.tick s6 s7 _ _ (by omega) (by omega) ?_ (by omega) (by omega) (fun j hj => ?_) hH7' (hI3.sm AS.tick_sm)
          · show β.n = 60
            rw [hs3.n, hn2]; exact hαn
          · show In64 (if j = i then x0 else key j) ∧ In64 (if j = i then x1 else ser j)
            by_cases e : j = i
            · rw [if_pos e, if_pos e]; exact ⟨bx0, bx1⟩
            · rw [if_neg e, if_neg e]; exact hks j (by omega)
        · exact hfin
      · exact hfin
  refine ⟨21, one 21 0 M1 _ ⟨none, 0, 0⟩ ⟨none, 0, 0⟩ (fun _ => 0) (fun _ => 0) (by omega) (by omega) rfl (by decide) rfl (fun j hj => by omega) ((h1.nilSl).nilSlk) ⟨rfl, rfl, fun j hj => by omega, fun j hj => by omega, fun j hj => by omega, fun j hj => by omega⟩⟩

end
end Go.Proofs.Ytoeijcmpkfjbfaa.HL
