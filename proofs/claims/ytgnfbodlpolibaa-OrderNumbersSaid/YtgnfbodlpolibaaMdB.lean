/-
  MdB: sets of entries: what each of model's calls does.
-/
import Derived.Test.YtgnfbodlpolibaaMdA
set_option linter.unusedVariables false
set_option linter.unusedSimpArgs false
set_option maxRecDepth 100000
namespace Go.Proofs.Ytgnfbodlpolibaa.HL
open Go.RowKit (Below)
open Go.Proofs

section
variable {P : Program} {w0 : World} {M : Mem}
theorem peek_shape {b : Nat} {cs : List Value} {e : TypeId} (h : Own w0 M b cs e) : peek P w0 M (shape b) = some (some (e, cs.length)) := by
  have h2 : shp? w0 M b = some (some (e, cs.length)) := by
    unfold shp?
    rw [if_neg (by have := h.1; omega), h.2]
  simp only [shape, peek, h2]
theorem peek_frozen {b : Nat} {cs : List Value} {e : TypeId} (h : Own w0 M b cs e) (ad : Addr) (hb : ad.block = b) : peek P w0 M (frozen ad) = some false := by
  have h2 : frz? w0 M ad = some false := by
    unfold frz?
    rw [hb, if_neg (by have := h.1; omega), h.2]
  simp only [frozen, peek, h2]
theorem peek_noView {b : Nat} {cs : List Value} {e : TypeId} (h : Own w0 M b cs e) {ad : Addr} (hb : ad.block = b) : peek P w0 M (noView ad) = some () := by
  have h2 : peek P w0 M (viewAt ad.block) = some none := by
    unfold viewAt
    rw [hb, peek_peek (peek_shape h)]
    rfl
  unfold noView
  rw [peek_peek h2]; rfl
theorem peek_stringish {b : Nat} {cs : List Value} {e : TypeId} (h : Own w0 M b cs e) {ad : Addr} (hb : ad.block = b) : peek P w0 M (stringish ad) = some false := by
  unfold stringish
  rw [peek_peek (peek_frozen h ad hb)]
  simp only [Bool.false_eq_true, if_false]
  rw [hb, peek_peek (peek_shape h)]
  exact peek_frozen h _ rfl
/-- Two places of one's own are not the same. -/
theorem ptr_ne {t elem : TypeId} {X Y : Operand} (ht : P.underlying t = some (.pointer elem)) {n : Nat} (hs : (P.info? elem).map (·.size) = some (n + 1)) {a b : Nat} {csa csb : List Value} {ea eb : TypeId} (hne : a ≠ b) (oa : Own w0 M a csa ea) (ob : Own w0 M b csb eb) :
    (std P w0).bqm .eql t X Y (.pointer (some ⟨a, 0, none⟩)) (.pointer (some ⟨b, 0, none⟩)) M = some (.bool false) := by
  obtain ⟨inf, hinf, hsz⟩ : ∃ inf, P.info? elem = some inf ∧ inf.size = n + 1 := by
    cases h : P.info? elem with
    | none => rw [h] at hs; cases hs
    | some inf => rw [h] at hs; exact ⟨inf, rfl, Option.some.inj hs⟩
  have hm : peek P w0 M (mayBeOne ⟨a, 0, none⟩ ⟨b, 0, none⟩) = some false := by
    unfold mayBeOne
    rw [peek_peek (peek_stringish oa rfl), peek_peek (peek_stringish ob rfl)]
    simp only [Bool.false_and]
    simp only [bind_assoc, LawfulMonad.pure_bind, peek_peek (peek_shape oa), peek_peek (peek_shape ob)]
    rfl
  have hsa : peek P w0 M (sameAddr ⟨a, 0, none⟩ ⟨b, 0, none⟩) = some false := by
    unfold sameAddr
    have : (a == b) = false := by simpa using hne
    simp only [this, Bool.false_eq_true, if_false]
    rw [peek_peek (peek_frozen oa ⟨a, 0, none⟩ rfl), peek_peek (peek_frozen ob ⟨b, 0, none⟩ rfl)]
    simp only [Bool.false_and, Bool.false_eq_true, if_false]
    rw [peek_peek (peek_noView oa rfl), peek_peek (peek_noView ob rfl), peek_peek hm]
    simp only [Bool.false_eq_true, if_false]
    rfl
  show peek P w0 M (eqGuard .eql t X Y (.pointer (some ⟨a, 0, none⟩)) (.pointer (some ⟨b, 0, none⟩)) >>= fun _ => (do pure (.bool (← Op.equal t (.pointer (some ⟨a, 0, none⟩)) (.pointer (some ⟨b, 0, none⟩)))) : Sem Value)) = _
  have hg : peek P w0 M (eqGuard .eql t X Y (.pointer (some ⟨a, 0, none⟩)) (.pointer (some ⟨b, 0, none⟩))) = some () := rfl
  rw [peek_peek hg]
  have he : peek P w0 M (Op.equal t (.pointer (some ⟨a, 0, none⟩)) (.pointer (some ⟨b, 0, none⟩))) = some false := by
    unfold Op.equal
    rw [show Op.maxDepth = 9999 + 1 from rfl]
    unfold Op.equalIn
    rw [peek_peek (peek_under ht)]
    simp only
    rw [peek_peek (peek_size hinf), hsz]
    simp only [ne_eq, Nat.succ_ne_zero, not_false_eq_true, if_true, Nat.add_one_ne_zero]
    exact hsa
  rw [peek_peek he]; rfl
theorem ptr_same {t elem : TypeId} {X Y : Operand} (ht : P.underlying t = some (.pointer elem)) {n : Nat} (hs : (P.info? elem).map (·.size) = some (n + 1)) {a : Nat} :
    (std P w0).bqm .eql t X Y (.pointer (some ⟨a, 0, none⟩)) (.pointer (some ⟨a, 0, none⟩)) M = some (.bool true) := by
  obtain ⟨inf, hinf, hsz⟩ : ∃ inf, P.info? elem = some inf ∧ inf.size = n + 1 := by
    cases h : P.info? elem with
    | none => rw [h] at hs; cases hs
    | some inf => rw [h] at hs; exact ⟨inf, rfl, Option.some.inj hs⟩
  have hsa : peek P w0 M (sameAddr ⟨a, 0, none⟩ ⟨a, 0, none⟩) = some true := by
    unfold sameAddr
    simp only [BEq.rfl, if_true]
    rfl
  show peek P w0 M (eqGuard .eql t X Y (.pointer (some ⟨a, 0, none⟩)) (.pointer (some ⟨a, 0, none⟩)) >>= fun _ => (do pure (.bool (← Op.equal t (.pointer (some ⟨a, 0, none⟩)) (.pointer (some ⟨a, 0, none⟩)))) : Sem Value)) = _
  have hg : peek P w0 M (eqGuard .eql t X Y (.pointer (some ⟨a, 0, none⟩)) (.pointer (some ⟨a, 0, none⟩))) = some () := rfl
  rw [peek_peek hg]
  have he : peek P w0 M (Op.equal t (.pointer (some ⟨a, 0, none⟩)) (.pointer (some ⟨a, 0, none⟩))) = some true := by
    unfold Op.equal
    rw [show Op.maxDepth = 9999 + 1 from rfl]
    unfold Op.equalIn
    rw [peek_peek (peek_under ht)]
    simp only
    rw [peek_peek (peek_size hinf), hsz]
    simp only [ne_eq, Nat.succ_ne_zero, not_false_eq_true, if_true, Nat.add_one_ne_zero]
    exact hsa
  rw [peek_peek he]; rfl
end

/-! What the calls come to. -/
def getE (l : List Ent) (x : Int) : Ent := match fnd l x with
  | some i => l.getD i (0, 0)
  | none => (0, 0)
def rmv (l : List Ent) (x : Int) : List Ent := match fnd l x with
  | some i => l.eraseIdx i
  | none => l
def lowE (l : List Ent) (x k : Int) : List Ent := if (fnd l x).isSome ∧ k ≤ (getE l x).1 then ins (rmv l x) (k, x) else l
def lowB (l : List Ent) (x k : Int) : Bool := (fnd l x).isSome && decide (k ≤ (getE l x).1)
theorem ins_at {e : Ent} : ∀ {l : List Ent} {i : Nat}, i ≤ l.length → (∀ j x, j < i → l[j]? = some x → Lt x e) → (∀ x, l[i]? = some x → ¬ Lt x e) → l.take i ++ e :: l.drop i = ins l e
  | [], i, h, _, _ => by simp [ins]
  | y :: l, 0, _, _, h2 => by
    rw [ins_cons, if_neg (h2 y rfl)]; rfl
  | y :: l, i + 1, h, h1, h2 => by
    rw [ins_cons, if_pos (h1 0 y (by omega) rfl), ← ins_at (l := l) (i := i) (by simpa using h) (fun j x hj hx => h1 (j + 1) x (by omega) (by simpa using hx)) (fun x hx => h2 x (by simpa using hx))]
    rfl
theorem fndI_some {l : List Ent} {x : Int} {i : Nat} (h : fnd l x = some i) : fndI l x = (i : Int) := by unfold fndI; rw [h]
theorem fndI_none {l : List Ent} {x : Int} (h : fnd l x = none) : fndI l x = -1 := by unfold fndI; rw [h]
theorem rmv_len (l : List Ent) (x : Int) : (rmv l x).length ≤ l.length := by
  unfold rmv
  split
  · exact List.length_eraseIdx_le _ _
  · exact Nat.le_refl _

section
variable {w0 : World} {M M0 F : Mem} {R : Value → Mem → Prop}

theorem Holds.freeze1 {P : Asn} {b : Nat} {cs : List Value} {e : TypeId} (h : Holds w0 F M (star (row1 b cs e) P)) : ∃ F', Mem.le F F' ∧ Own w0 F' b cs e ∧ Holds w0 F' M P := by
  obtain ⟨r, ⟨r1, r2, rfl, h1, h2⟩, h3⟩ := h
  have h4 := h3.perm List.perm_append_comm
  have h5 := h4.aside.1
  have hF : ∀ x ∈ r1, F x.1 = Option.none := fun x hx => (h3.at_ x (List.mem_append_left _ hx)).2.1
  have h1' : r1 = [(b, cs, e)] := h1
  subst h1'
  refine ⟨ext F [(b, cs, e)], le_ext hF, ⟨(h3.at_ (b, cs, e) (by simp)).1, ?_⟩, ⟨r2, h2, h5⟩⟩
  unfold ext
  simp
theorem Holds.unfrm {P : Asn} {F' : Mem} (h : Holds w0 F' M P) (hl : Mem.le F F') : Holds w0 F M P := by
  obtain ⟨r, h1, h2⟩ := h
  exact ⟨r, h1, ⟨h2.nd, fun x hx => by obtain ⟨a1, a2, a3⟩ := h2.at_ x hx; exact ⟨a1, le_none hl a2, a3⟩, Mem.le_trans hl h2.fr⟩⟩

/-- A place of its own for an entry. -/
theorem boxE {P : Asn} (hW : Holds w0 F M P) (x y : Int) {K : Nat → Mem → Prop} (hK : ∀ b F1 M1, Mem.le F F1 → Holds w0 F1 M1 P → (∀ M', Mem.le F1 M' → rd w0 M' ⟨b, 0, none⟩ = some (.int .i64 x) ∧ rd w0 M' ⟨b, 1, none⟩ = some (.int .i64 y) ∧ (std PP w0).ld 40 ⟨b, 0, none⟩ M' = some (.agg #[.int .i64 x, .int .i64 y])) → K b M1) :
    (std PP w0).nw [.int .i64 0, .int .i64 0] 40 (fun b M22 => (std PP w0).st 40 ⟨b, 0, none⟩ (.agg #[.int .i64 x, .int .i64 y]) (fun M23 => K b M23) M22) M := by
  intro b2 hb2 hw2
  have hP := Holds.new hW hb2 hw2 [.int .i64 0, .int .i64 0] 40
  refine st_agg (vs := [.int .i64 x, .int .i64 y]) W.g40 (Holds.own1 hP) (by simp) (by intro v hv; simp only [List.mem_cons, List.not_mem_nil, or_false] at hv; rcases hv with rfl | rfl <;> rfl) ?_
  have hP2 := Holds.upd1 hP (cs' := over [.int .i64 0, .int .i64 0] 0 [.int .i64 x, .int .i64 y]) (e' := 40)
  obtain ⟨F3, hle3, hown3, hW3⟩ := Holds.freeze1 hP2
  change Own w0 F3 b2 [.int .i64 x, .int .i64 y] 40 at hown3
  exact hK b2 F3 _ hle3 hW3 fun M' hl => ⟨rd_own (o := 0) (hown3.le hl), rd_own (o := 1) (hown3.le hl), ld_agg (cs := [.int .i64 x, .int .i64 y]) W.g40 (fun j v hj => by rw [add_eq, rd_own (hown3.le hl), Nat.zero_add]; exact hj)⟩
theorem boxE' {P : Asn} (hW : Holds w0 F M P) (x y : Int) {K : Nat → Mem → Prop} (hK : ∀ b F1 M1, Mem.le F F1 → Holds w0 F1 M1 P → (∀ M', Mem.le F1 M' → rd w0 M' ⟨b, 0, none⟩ = some (.int .i64 x) ∧ rd w0 M' ⟨b, 1, none⟩ = some (.int .i64 y) ∧ (std PP w0).ld 40 ⟨b, 0, none⟩ M' = some (.agg #[.int .i64 x, .int .i64 y])) → K b M1) :
    (std PP w0).nw [.int .i64 x, .int .i64 y] 40 (fun b M22 => K b M22) M := by
  intro b2 hb2 hw2
  have hP := Holds.new hW hb2 hw2 [.int .i64 x, .int .i64 y] 40
  obtain ⟨F3, hle3, hown3, hW3⟩ := Holds.freeze1 hP
  exact hK b2 F3 _ hle3 hW3 fun M' hl => ⟨rd_own (o := 0) (hown3.le hl), rd_own (o := 1) (hown3.le hl), ld_agg (cs := [.int .i64 x, .int .i64 y]) W.g40 (fun j v hj => by rw [add_eq, rd_own (hown3.le hl), Nat.zero_add]; exact hj)⟩
/-- What is told stands in a place of its own. -/
theorem resE {P : Asn} {b1 : Nat} {c0 c1 : Value} {x y : Int} (hN : Holds w0 F M (star (row1 b1 [c0, c1] 40) P)) {K : Value → Mem → Prop} (hK : ∀ M', Holds w0 F M' P → K (.agg #[.int .i64 x, .int .i64 y]) M') :
    (std PP w0).st 40 ⟨b1, 0, none⟩ (.agg #[.int .i64 x, .int .i64 y]) (fun M14 => ob ((std PP w0).rdv 40 (.pointer (some ⟨b1, 0, none⟩)) M14) fun v15 => K v15 M14) M := by
  refine st_agg (vs := [.int .i64 x, .int .i64 y]) W.g40 (Holds.own1 hN) (by simp) (by intro v hv; simp only [List.mem_cons, List.not_mem_nil, or_false] at hv; rcases hv with rfl | rfl <;> rfl) ?_
  have hP2 := Holds.upd1 hN (cs' := over [c0, c1] 0 [.int .i64 x, .int .i64 y]) (e' := 40)
  have o2 : Own w0 _ b1 [.int .i64 x, .int .i64 y] 40 := Holds.own1 hP2
  rw [rdv_ptr, ld_agg (cs := [.int .i64 x, .int .i64 y]) W.g40 (fun j v hj => by rw [add_eq, rd_own o2, Nat.zero_add]; exact hj), ob_v]
  exact hK _ hP2.right

/-- A set in memory, beside what else there is. -/
def SetH (w0 : World) (F M : Mem) (T : TypeId) (s : Nat) (l : List Ent) (Q : Asn) : Prop := ∃ sv, Holds w0 F M (star (row1 s [SV.v sv] T) (star (Es sv l) Q))
theorem SetH.le {M' : Mem} {T : TypeId} {s : Nat} {l : List Ent} {Q : Asn} (h : SetH w0 F M T s l Q) (hl : Mem.le M M') : SetH w0 F M' T s l Q := by
  obtain ⟨sv, h⟩ := h
  exact ⟨sv, h.le hl⟩
theorem SetH.unfrm {F' : Mem} {T : TypeId} {s : Nat} {l : List Ent} {Q : Asn} (h : SetH w0 F' M T s l Q) (hl : Mem.le F F') : SetH w0 F M T s l Q := by
  obtain ⟨sv, h⟩ := h
  exact ⟨sv, h.unfrm hl⟩
theorem SetH.fr {T : TypeId} {s : Nat} {l : List Ent} {Q : Asn} (h : SetH w0 F M T s l Q) : Mem.le F M := by
  obtain ⟨sv, h⟩ := h
  exact h.fr
theorem SetH.rest {T : TypeId} {s : Nat} {l : List Ent} {Q : Asn} (h : SetH w0 F M T s l Q) : Holds w0 F M Q := by
  obtain ⟨sv, h⟩ := h
  exact h.right.right
/-- What is seen of a set. -/
theorem SetH.see {T : TypeId} {s : Nat} {l : List Ent} {Q : Asn} (h : SetH w0 F M T s l Q) : ∃ sv, Holds w0 F M (star (row1 s [SV.v sv] T) (star (Es sv l) Q)) ∧ Own w0 M s [SV.v sv] T ∧ rd w0 M ⟨s, 0, none⟩ = some (SV.v sv) ∧ RdE w0 M sv l ∧ sv.n = l.length := by
  obtain ⟨sv, h⟩ := h
  exact ⟨sv, h, h.own1, rd_own (o := 0) h.own1, h.right.rdE, h.right.lenE⟩
/-- It gets another row. -/
theorem SetH.put {T : TypeId} {s : Nat} {l m : List Ent} {sv s' : SV} {Q : Asn} (h : Holds w0 F M (star (row1 s [SV.v sv] T) (star (Es s' m) Q))) {K : Mem → Prop} (hK : ∀ M', SetH w0 F M' T s m Q → K M') : (std PP w0).st 36 ⟨s, 0, none⟩ (SV.v s') (fun M' => K M') M := by
  refine st_one W.c36 h.own1 (by simp) rfl rfl ?_
  exact hK _ ⟨s', h.upd1 (cs' := [SV.v s']) (e' := T)⟩

abbrev tS : TypeId := 74

theorem find_ok {s : Nat} {sv : SV} {l : List Ent} {x : Int} (hp : rd w0 M ⟨s, 0, none⟩ = some (SV.v sv)) (hle : ∀ M', Mem.le M M' → rd w0 M' ⟨s, 0, none⟩ = some (SV.v sv)) (hs : RdE w0 M sv l) (hb : l.length ≤ 100000) (h : ∀ M', Mem.le M M' → R (.int .i64 (fndI l x)) M') :
    C PP w0 Id.model_Set_find #[.pointer (some ⟨s, 0, none⟩), .int .i64 x] R M := by
  apply model_Set_find.go
  unfold model_Set_find.T
  intro b hb0 hw0
  have l1 : Mem.le M (M.set b (.row [.int .i64 x] 2)) := Mem.le_set _ hb0
  have o1 : Own w0 (M.set b (.row [.int .i64 x] 2)) b [.int .i64 x] 2 := Own.new hw0
  generalize M.set b (.row [.int .i64 x] 2) = M1 at l1 o1 ⊢
  simp only [nc_v, ld_one W.c36, hle _ l1, ob_v, shS_sv]
  refine IdxE_ok (kf := (Id.model_Set_find_1, #[.pointer (some ⟨b, 0, none⟩)])) (p := fun e => decide (e.2 = x)) (hs.le l1) (by omega) (fun e M2 R' he l2 hR' => ?_) fun M2 l2 => ?_
  · show C PP w0 Id.model_Set_find_1 #[.agg #[.int .i64 e.1, .int .i64 e.2], .pointer (some ⟨b, 0, none⟩)] R' M2
    apply model_Set_find_1.go
    unfold model_Set_find_1.T
    intro b3 hb3 hw3
    have l3 : Mem.le M2 (M2.set b3 (.row [.int .i64 e.1, .int .i64 e.2] 40)) := Mem.le_set _ hb3
    have o3 : Own w0 (M2.set b3 (.row [.int .i64 e.1, .int .i64 e.2] 40)) b3 [.int .i64 e.1, .int .i64 e.2] 40 := Own.new hw3
    have hh := hR' _ l3
    generalize M2.set b3 (.row [.int .i64 e.1, .int .i64 e.2] 40) = M3 at l3 o3 hh ⊢
    have e1 : rd w0 M3 ⟨b3, 1, none⟩ = some (.int .i64 e.2) := rd_own (o := 1) o3
    have e2 : rd w0 M3 ⟨b, 0, none⟩ = some (.int .i64 x) := rd_own (o := 0) (o1.le (Mem.le_trans l2 l3))
    simp only [go_sem, add_eq, Nat.zero_add, e1, e2]
    have : (e.2 == x) = decide (e.2 = x) := by
      by_cases h9 : e.2 = x <;> simp [h9]
    rw [this]; exact hh
  · rw [shI_v]
    exact h M2 (Mem.le_trans l1 l2)
theorem findS_ok {s : Nat} {l : List Ent} {Q : Asn} {x : Int} (h : SetH w0 F M tS s l Q) (hb : l.length ≤ 100000) (hR : ∀ M', SetH w0 F M' tS s l Q → Mem.le M M' → R (.int .i64 (fndI l x)) M') :
    C PP w0 Id.model_Set_find #[.pointer (some ⟨s, 0, none⟩), .int .i64 x] R M := by
  obtain ⟨sv, h1, h2, h3, h4, h5⟩ := h.see
  exact find_ok h3 (fun M' hl => rd_own (o := 0) (h2.le hl)) h4 hb fun M' hl => hR M' (h.le hl) hl

theorem put_ok {s : Nat} {l : List Ent} {e : Ent} {Q : Asn} (h : SetH w0 F M tS s l Q) (hb : l.length ≤ 10000) (hR : ∀ M', SetH w0 F M' tS s (ins l e) Q → R (.tuple #[]) M') :
    C PP w0 Id.model_Set_put #[.pointer (some ⟨s, 0, none⟩), .agg #[.int .i64 e.1, .int .i64 e.2]] R M := by
  apply model_Set_put.go
  intro pts H
  unfold model_Set_put.T
  obtain ⟨sv, hH, _⟩ := h.see
  refine boxE' hH e.1 e.2 fun b F1 M1 hle1 hH1 hbx => ?_
  have key : ∀ (k i : Nat) (M' : Mem), i ≤ l.length → l.length < i + k → Holds w0 F1 M' (star (row1 s [SV.v sv] tS) (star (Es sv l) Q)) → (∀ j x, j < i → l[j]? = some x → Lt x e) → model_Set_put.L2 pts k (some ⟨s, 0, none⟩) ⟨b, 0, none⟩ (i : Int) M' := by
    intro k
    induction k with
    | zero => intro i M' h1 h2; omega
    | succ k ih =>
      intro i M' hi hk hX hlt
      rw [H.L2]
      unfold model_Set_put.L2.T
      have hp := rd_own (o := 0) hX.own1
      have hrd := hX.right.rdE
      have hn := hX.right.lenE
      have hp' : rd w0 M' ⟨s, 0, none⟩ = some (SV.v sv) := hp
      -- here it is put
      have fin : (∀ x, l[i]? = some x → ¬ Lt x e) → ∀ M2, Holds w0 F1 M2 (star (row1 s [SV.v sv] tS) (star (Es sv l) Q)) → model_Set_put.J1 pts (some ⟨s, 0, none⟩) ⟨b, 0, none⟩ (i : Int) M2 := by
        intro hnot M2 hX2
        rw [H.J1]
        unfold model_Set_put.J1.T
        have hp2 : rd w0 M2 ⟨s, 0, none⟩ = some (SV.v sv) := rd_own (o := 0) hX2.own1
        simp only [nc_v, ld_one W.c36, hp2, ob_v, shS_sv, (hbx _ hX2.fr).2.2, shA_v, shCons_v, shI_v, shNil_v]
        refine newE hX2 e.1 e.2 fun M3 s3 l3 h3 => ?_
        rw [shS_sv]
        have h3' := h3.rot
        have hp3 : rd w0 M3 ⟨s, 0, none⟩ = some (SV.v sv) := rd_own (o := 0) h3'.own1
        refine ⟨hp3, ?_⟩
        -- the row of the set first
        have h4 : Holds w0 F1 M3 (star (Es sv l) (star (Es s3 [(e.1, e.2)]) (star (row1 s [SV.v sv] tS) Q))) := by
          obtain ⟨r, ⟨r1, r2, rfl, q1, r3, r4, rfl, q2, r5, r6, rfl, q3, q4⟩, q5⟩ := h3
          refine ⟨r5 ++ (r1 ++ (r3 ++ r6)), ⟨r5, r1 ++ (r3 ++ r6), rfl, q3, r1, r3 ++ r6, rfl, q1, r3, r6, rfl, q2, q4⟩, q5.perm ?_⟩
          have : (r1 ++ (r3 ++ (r5 ++ r6))).Perm ((r1 ++ r3) ++ (r5 ++ r6)) := by rw [List.append_assoc]
          refine this.trans ?_
          rw [← List.append_assoc r1 r3 r6, ← List.append_assoc r5, ← List.append_assoc]
          exact List.perm_append_comm.append_right r6
        refine InsE_ok h4 hi (by omega) fun M4 s4 h5 => ?_
        rw [shS_sv]
        have h6 : Holds w0 F1 M4 (star (row1 s [SV.v sv] tS) (star (Es s4 (l.take i ++ (e.1, e.2) :: l.drop i)) Q)) := by
          obtain ⟨r, ⟨r1, r2, rfl, q1, r3, r4, rfl, q2, r5, r6, rfl, q3, q4⟩, q5⟩ := h5
          refine ⟨r5 ++ (r1 ++ r6), ⟨r5, r1 ++ r6, rfl, q3, r1, r6, rfl, q1, q4⟩, (q5.perm (r' := (r5 ++ (r1 ++ r6)) ++ r3) ?_).drop⟩
          have e1 : (r1 ++ (r3 ++ (r5 ++ r6))).Perm ((r1 ++ (r5 ++ r6)) ++ r3) := by
            rw [List.append_assoc]
            exact List.perm_append_comm.append_left r1
          refine e1.trans (List.Perm.append_right _ ?_)
          rw [← List.append_assoc, ← List.append_assoc]
          exact List.perm_append_comm.append_right r6
        refine SetH.put (l := l) h6 fun M5 h7 => ?_
        refine hR M5 ?_
        have e9 : l.take i ++ (e.1, e.2) :: l.drop i = ins l e := by
          exact ins_at hi hlt hnot
        rw [← e9]
        exact h7.unfrm hle1
      simp only [nc_v, ld_one W.c36, hp', ob_v, shS_sv]
      rw [bs_decide]
      split
      · have hlt2 : i < l.length := by omega
        have ex := List.getElem?_eq_getElem hlt2
        generalize l[i] = x at ex
        refine rdE hrd (Mem.le_refl _) i rfl ex ?_
        simp only [(hbx _ hX.fr).2.2, ob_v, shA_v, shCons_v, shI_v, shNil_v]
        refine Before_ok (a := x) (b := e) fun M2 l2 => ?_
        rw [shB_v, bs_decide]
        split
        · rename_i hb2
          rw [i64_succ (by omega)]
          refine ih (i + 1) M2 (by omega) (by omega) (hX.le l2) fun j y hj hy => ?_
          by_cases hji : j = i
          · subst hji; rw [ex] at hy; cases hy; exact hb2
          · exact hlt j y (by omega) hy
        · rename_i hb2
          exact fin (fun y hy => by rw [ex] at hy; cases hy; exact hb2) M2 (hX.le l2)
      · have hie : i = l.length := by omega
        exact fin (fun y hy => by rw [hie, List.getElem?_eq_none (Nat.le_refl _)] at hy; cases hy) M' hX
  exact ⟨l.length + 1, key (l.length + 1) 0 M1 (by omega) (by omega) hH1 fun j x hj => absurd hj (by omega)⟩

theorem mNew_ok {Q : Asn} (h : Holds w0 F M Q) (hR : ∀ M' s, SetH w0 F M' tS s [] Q → Mem.le M M' → R (.pointer (some ⟨s, 0, none⟩)) M') : C PP w0 Id.model_New #[] R M := by
  apply model_New.go
  unfold model_New.T
  have hb : (std PP w0).bld 74 [] = some (.agg #[.slice none 0 0]) := by kernel_rfl
  simp only [hb, ob_v, shA_v, shCons_v, shS_v, shNil_v]
  intro b hb0 hw0
  have h1 := Holds.new (Holds.nilSlk (k := 2) h) hb0 hw0 [SV.v ⟨none, 0, 0⟩] 74
  exact hR _ b ⟨⟨none, 0, 0⟩, h1⟩ (Mem.le_set _ hb0)

theorem mInsert_ok {s : Nat} {l : List Ent} {e : Ent} {Q : Asn} (h : SetH w0 F M tS s l Q) (hb : l.length ≤ 10000) (h0 : ∀ i, fnd l e.2 = some i → ∀ M', SetH w0 F M' tS s l Q → R (.bool false) M') (h1 : fnd l e.2 = none → ∀ M', SetH w0 F M' tS s (ins l e) Q → R (.bool true) M') :
    C PP w0 Id.model_Set_Insert #[.pointer (some ⟨s, 0, none⟩), .agg #[.int .i64 e.1, .int .i64 e.2]] R M := by
  apply model_Set_Insert.go
  unfold model_Set_Insert.T
  obtain ⟨sv, hH⟩ := h
  refine boxE' hH e.1 e.2 fun b F1 M1 hle1 hH1 hbx => ?_
  have e1 := (hbx _ hH1.fr).2.1
  simp only [add_eq, Nat.zero_add, ld_one W.c2, e1, ob_v, shI_v]
  refine findS_ok ⟨sv, hH1⟩ (by omega) fun M2 hS2 l2 => ?_
  rw [shI_v, bs_decide]
  cases hf : fnd l e.2 with
  | some i =>
    rw [fndI_some hf, if_pos (by omega)]
    exact h0 i hf M2 (hS2.unfrm hle1)
  | none =>
    rw [fndI_none hf, if_neg (by omega)]
    simp only [(hbx _ hS2.fr).2.2, ob_v, shA_v, shCons_v, shI_v, shNil_v]
    refine put_ok hS2 hb fun M3 hS3 => ?_
    exact h1 hf M3 (hS3.unfrm hle1)

theorem mMin_ok {s : Nat} {l : List Ent} {Q : Asn} (h : SetH w0 F M tS s l Q) (hb : l.length ≤ 10000) (hR : ∀ M', SetH w0 F M' tS s l Q → R (.tuple #[.agg #[.int .i64 (l.headD (0, 0)).1, .int .i64 (l.headD (0, 0)).2], .bool (!l.isEmpty)]) M') :
    C PP w0 Id.model_Set_Min #[.pointer (some ⟨s, 0, none⟩)] R M := by
  apply model_Set_Min.go
  unfold model_Set_Min.T
  obtain ⟨sv, hH⟩ := h
  intro b hb0 hw0
  have hN := Holds.new hH hb0 hw0 [.int .i64 0, .int .i64 0] 40
  generalize M.set b _ = M1 at hN ⊢
  have hX := hN.right
  have hp : rd w0 M1 ⟨s, 0, none⟩ = some (SV.v sv) := rd_own (o := 0) hX.own1
  have hn := hX.right.lenE
  have hrd := hX.right.rdE
  simp only [nc_v, ld_one W.c36, hp, ob_v, shS_sv, bs_beq]
  cases l with
  | nil =>
    rw [if_pos (by rw [hn]; rfl)]
    have hbld : (std PP w0).bld 40 [] = some (.agg #[.int .i64 0, .int .i64 0]) := by kernel_rfl
    simp only [hbld, ob_v, shA_v, shCons_v, shI_v, shNil_v]
    exact resE (K := fun v M => R (.tuple #[v, .bool false]) M) hN fun M2 h2 => hR M2 ⟨sv, h2⟩
  | cons x l =>
    simp only [List.length_cons] at hn
    rw [if_neg (by omega)]
    refine rdE (i := 0) hrd (Mem.le_refl _) 0 rfl rfl ?_
    exact resE (K := fun v M => R (.tuple #[v, .bool true]) M) hN fun M2 h2 => hR M2 ⟨sv, h2⟩

theorem mFind_ok {s : Nat} {l : List Ent} {Q : Asn} {x : Int} (h : SetH w0 F M tS s l Q) (hb : l.length ≤ 10000) (hR : ∀ M', SetH w0 F M' tS s l Q → R (.tuple #[.agg #[.int .i64 (getE l x).1, .int .i64 (getE l x).2], .bool (fnd l x).isSome]) M') :
    C PP w0 Id.model_Set_Find #[.pointer (some ⟨s, 0, none⟩), .int .i64 x] R M := by
  apply model_Set_Find.go
  unfold model_Set_Find.T
  obtain ⟨sv, hH⟩ := h
  intro b hb0 hw0
  have hN := Holds.new hH hb0 hw0 [.int .i64 0, .int .i64 0] 40
  generalize M.set b _ = M1 at hN ⊢
  refine findS_ok (Q := Q) ⟨sv, hN.right⟩ (by omega) fun M2 _ l2 => ?_
  have hN2 := hN.le l2
  have hX := hN2.right
  have hp : rd w0 M2 ⟨s, 0, none⟩ = some (SV.v sv) := rd_own (o := 0) hX.own1
  have hrd := hX.right.rdE
  rw [shI_v, bs_decide]
  cases hf : fnd l x with
  | none =>
    rw [fndI_none hf, if_pos (by omega)]
    have hbld : (std PP w0).bld 40 [] = some (.agg #[.int .i64 0, .int .i64 0]) := by kernel_rfl
    simp only [hbld, ob_v, shA_v, shCons_v, shI_v, shNil_v]
    refine resE (K := fun v M => R (.tuple #[v, .bool false]) M) hN2 fun M3 h3 => ?_
    have := hR M3 ⟨sv, h3⟩
    unfold getE at this
    rw [hf] at this; exact this
  | some i =>
    obtain ⟨y, hy, _⟩ := fnd_some hf
    rw [fndI_some hf, if_neg (by omega)]
    simp only [nc_v, ld_one W.c36, hp, ob_v, shS_sv]
    refine rdE hrd (Mem.le_refl _) i rfl hy ?_
    refine resE (K := fun v M => R (.tuple #[v, .bool true]) M) hN2 fun M3 h3 => ?_
    have := hR M3 ⟨sv, h3⟩
    unfold getE at this
    rw [hf] at this
    simp only [List.getD_eq_getElem?_getD, hy, Option.getD_some] at this
    exact this

theorem mPop_ok {s : Nat} {l : List Ent} {Q : Asn} (h : SetH w0 F M tS s l Q) (hb : l.length ≤ 10000) (hR : ∀ M', SetH w0 F M' tS s l.tail Q → R (.tuple #[.agg #[.int .i64 (l.headD (0, 0)).1, .int .i64 (l.headD (0, 0)).2], .bool (!l.isEmpty)]) M') :
    C PP w0 Id.model_Set_Pop #[.pointer (some ⟨s, 0, none⟩)] R M := by
  apply model_Set_Pop.go
  unfold model_Set_Pop.T
  obtain ⟨sv, hH⟩ := h
  intro b hb0 hw0
  have hN := Holds.new hH hb0 hw0 [.int .i64 0, .int .i64 0] 40
  generalize M.set b _ = M1 at hN ⊢
  -- the place of the result behind
  have hN' : SetH w0 F M1 tS s l (star (row1 b [.int .i64 0, .int .i64 0] 40) Q) := ⟨sv, by
    obtain ⟨r, ⟨r1, r2, rfl, q1, r3, r4, rfl, q2, r5, r6, rfl, q3, q4⟩, q5⟩ := hN
    refine ⟨r3 ++ (r5 ++ (r1 ++ r6)), ⟨r3, _, rfl, q2, r5, _, rfl, q3, r1, r6, rfl, q1, q4⟩, q5.perm ?_⟩
    rw [← List.append_assoc r3, ← List.append_assoc r3, ← List.append_assoc (r3 ++ r5), ← List.append_assoc r1]
    exact List.perm_append_comm.append_right r6⟩
  refine mMin_ok hN' hb fun M2 hS2 => ?_
  simp only [shT_v, shCons_v, shA_v, shI_v, shNil_v, shB_v]
  obtain ⟨sv2, hH2⟩ := hS2
  refine boxE hH2 (l.headD (0, 0)).1 (l.headD (0, 0)).2 fun b3 F3 M3 hle3 hH3 hbx => ?_
  -- the end
  have fin : ∀ (M4 : Mem) (m : List Ent), SetH w0 F3 M4 tS s m (star (row1 b [.int .i64 0, .int .i64 0] 40) Q) → m = l.tail → ∀ bb, bb = (!l.isEmpty) →
      ob ((std PP w0).ld 40 ⟨b3, 0, none⟩ M4) fun v29 => shA v29 fun l30 => shCons l30 fun u31 r32 => shI .i64 u31 fun n33 => shCons r32 fun u34 r35 => shI .i64 u34 fun n36 => shNil r35 ((std PP w0).st 40 ⟨b, 0, none⟩ (.agg #[.int .i64 n33, .int .i64 n36]) (fun M37 => ob ((std PP w0).rdv 40 (.pointer (some ⟨b, 0, none⟩)) M37) fun v38 => R (.tuple #[v38, .bool bb]) M37) M4) := by
    intro M4 m hS4 hm bb hbb
    simp only [(hbx _ hS4.fr).2.2, ob_v, shA_v, shCons_v, shI_v, shNil_v]
    obtain ⟨sv4, hH4⟩ := hS4
    have hH5 : Holds w0 F3 M4 (star (row1 b [.int .i64 0, .int .i64 0] 40) (star (row1 s [SV.v sv4] tS) (star (Es sv4 m) Q))) := by
      obtain ⟨r, ⟨r3, r2, rfl, q2, r5, r4, rfl, q3, r1, r6, rfl, q1, q4⟩, q5⟩ := hH4
      refine ⟨r1 ++ (r3 ++ (r5 ++ r6)), ⟨r1, _, rfl, q1, r3, _, rfl, q2, r5, r6, rfl, q3, q4⟩, q5.perm ?_⟩
      rw [← List.append_assoc r3, ← List.append_assoc r3, ← List.append_assoc (r3 ++ r5), ← List.append_assoc r1]
      exact List.perm_append_comm.append_right r6
    refine resE (K := fun v M => R (.tuple #[v, .bool bb]) M) hH5 fun M5 h5 => ?_
    rw [hbb]
    refine hR M5 ?_
    rw [← hm]
    exact SetH.unfrm ⟨sv4, h5⟩ hle3
  cases l with
  | nil =>
    simp only [List.isEmpty_nil, Bool.not_true, bs_false]
    exact fin M3 [] ⟨sv2, hH3⟩ rfl false rfl
  | cons y l =>
    simp only [List.isEmpty_cons, Bool.not_false, bs_true]
    have hp3 : rd w0 M3 ⟨s, 0, none⟩ = some (SV.v sv2) := rd_own (o := 0) hH3.own1
    simp only [nc_v, ld_one W.c36, hp3, ob_v, shS_sv]
    refine DelE_ok (i := 0) hH3.rot (by simp) (by omega) fun M4 s4 h4 => ?_
    rw [shS_sv]
    refine SetH.put (l := y :: l) h4.rot fun M5 h5 => ?_
    exact fin M5 _ h5 rfl true rfl

theorem mRemove_ok {s : Nat} {l : List Ent} {Q : Asn} {x : Int} (h : SetH w0 F M tS s l Q) (hb : l.length ≤ 10000) (hR : ∀ M', SetH w0 F M' tS s (rmv l x) Q → R (.tuple #[.agg #[.int .i64 (getE l x).1, .int .i64 (getE l x).2], .bool (fnd l x).isSome]) M') :
    C PP w0 Id.model_Set_Remove #[.pointer (some ⟨s, 0, none⟩), .int .i64 x] R M := by
  apply model_Set_Remove.go
  unfold model_Set_Remove.T
  obtain ⟨sv, hH⟩ := h
  intro b hb0 hw0
  have hN := Holds.new hH hb0 hw0 [.int .i64 0, .int .i64 0] 40
  generalize M.set b _ = M1 at hN ⊢
  have hN' : SetH w0 F M1 tS s l (star (row1 b [.int .i64 0, .int .i64 0] 40) Q) := ⟨sv, by
    obtain ⟨r, ⟨r1, r2, rfl, q1, r3, r4, rfl, q2, r5, r6, rfl, q3, q4⟩, q5⟩ := hN
    refine ⟨r3 ++ (r5 ++ (r1 ++ r6)), ⟨r3, _, rfl, q2, r5, _, rfl, q3, r1, r6, rfl, q1, q4⟩, q5.perm ?_⟩
    rw [← List.append_assoc r3, ← List.append_assoc r3, ← List.append_assoc (r3 ++ r5), ← List.append_assoc r1]
    exact List.perm_append_comm.append_right r6⟩
  refine mFind_ok hN' hb fun M2 hS2 => ?_
  simp only [shT_v, shCons_v, shA_v, shI_v, shNil_v, shB_v]
  obtain ⟨sv2, hH2⟩ := hS2
  refine boxE hH2 (getE l x).1 (getE l x).2 fun b3 F3 M3 hle3 hH3 hbx => ?_
  have fin : ∀ (M4 : Mem) (m : List Ent), SetH w0 F3 M4 tS s m (star (row1 b [.int .i64 0, .int .i64 0] 40) Q) → m = rmv l x → ∀ bb, bb = (fnd l x).isSome →
      ob ((std PP w0).ld 40 ⟨b3, 0, none⟩ M4) fun v29 => shA v29 fun l30 => shCons l30 fun u31 r32 => shI .i64 u31 fun n33 => shCons r32 fun u34 r35 => shI .i64 u34 fun n36 => shNil r35 ((std PP w0).st 40 ⟨b, 0, none⟩ (.agg #[.int .i64 n33, .int .i64 n36]) (fun M37 => ob ((std PP w0).rdv 40 (.pointer (some ⟨b, 0, none⟩)) M37) fun v38 => R (.tuple #[v38, .bool bb]) M37) M4) := by
    intro M4 m hS4 hm bb hbb
    simp only [(hbx _ hS4.fr).2.2, ob_v, shA_v, shCons_v, shI_v, shNil_v]
    obtain ⟨sv4, hH4⟩ := hS4
    have hH5 : Holds w0 F3 M4 (star (row1 b [.int .i64 0, .int .i64 0] 40) (star (row1 s [SV.v sv4] tS) (star (Es sv4 m) Q))) := by
      obtain ⟨r, ⟨r3, r2, rfl, q2, r5, r4, rfl, q3, r1, r6, rfl, q1, q4⟩, q5⟩ := hH4
      refine ⟨r1 ++ (r3 ++ (r5 ++ r6)), ⟨r1, _, rfl, q1, r3, _, rfl, q2, r5, r6, rfl, q3, q4⟩, q5.perm ?_⟩
      rw [← List.append_assoc r3, ← List.append_assoc r3, ← List.append_assoc (r3 ++ r5), ← List.append_assoc r1]
      exact List.perm_append_comm.append_right r6
    refine resE (K := fun v M => R (.tuple #[v, .bool bb]) M) hH5 fun M5 h5 => ?_
    rw [hbb]
    refine hR M5 ?_
    rw [← hm]
    exact SetH.unfrm ⟨sv4, h5⟩ hle3
  cases hf : fnd l x with
  | none =>
    simp only [Option.isSome_none, bs_false]
    exact fin M3 l ⟨sv2, hH3⟩ (by unfold rmv; rw [hf]) false (by rw [hf]; rfl)
  | some i =>
    obtain ⟨y, hy, _⟩ := fnd_some hf
    have hil := (List.getElem?_eq_some_iff.1 hy).1
    simp only [Option.isSome_some, bs_true]
    refine findS_ok (Q := star (row1 b [.int .i64 0, .int .i64 0] 40) Q) ⟨sv2, hH3⟩ (by omega) fun M4 _ l4 => ?_
    have hH4 := hH3.le l4
    have hp4 : rd w0 M4 ⟨s, 0, none⟩ = some (SV.v sv2) := rd_own (o := 0) hH4.own1
    rw [fndI_some hf]
    simp only [nc_v, ld_one W.c36, hp4, ob_v, shS_sv, shI_v]
    rw [i64_succ (by omega)]
    refine DelE_ok (i := i) hH4.rot hil (by omega) fun M5 s5 h5 => ?_
    rw [shS_sv]
    refine SetH.put (l := l) h5.rot fun M6 h6 => ?_
    exact fin M6 _ h6 (by unfold rmv; rw [hf]) true (by rw [hf]; rfl)

theorem mLower_ok {s : Nat} {l : List Ent} {Q : Asn} {x k : Int} (h : SetH w0 F M tS s l Q) (hb : l.length ≤ 10000) (hR : ∀ M', SetH w0 F M' tS s (lowE l x k) Q → R (.bool (lowB l x k)) M') :
    C PP w0 Id.model_Set_Lower #[.pointer (some ⟨s, 0, none⟩), .int .i64 x, .int .i64 k] R M := by
  apply model_Set_Lower.go
  intro pts H
  unfold model_Set_Lower.T
  refine mFind_ok h hb fun M1 hS1 => ?_
  simp only [shT_v, shCons_v, shA_v, shI_v, shNil_v, shB_v]
  obtain ⟨sv1, hH1⟩ := hS1
  refine boxE hH1 (getE l x).1 (getE l x).2 fun b3 F3 M3 hle3 hH3 hbx => ?_
  cases hf : fnd l x with
  | none =>
    simp only [Option.isSome_none, Bool.not_false, bs_true]
    have := hR M3 (by unfold lowE; rw [hf, if_neg (by simp)]; exact SetH.unfrm ⟨sv1, hH3⟩ hle3)
    unfold lowB at this
    rw [hf] at this; exact this
  | some i =>
    simp only [Option.isSome_some, Bool.not_true, bs_false]
    have e1 := (hbx _ hH3.fr).1
    simp only [ld_one W.c2, e1, ob_v, shI_v]
    rw [bs_decide]
    split
    · rename_i hgt
      have := hR M3 (by unfold lowE; rw [if_neg (fun h9 => by have := h9.2; omega)]; exact SetH.unfrm ⟨sv1, hH3⟩ hle3)
      unfold lowB at this
      rw [hf, decide_eq_false (by omega)] at this; exact this
    · rename_i hgt
      rw [H.J1]
      unfold model_Set_Lower.J1.T
      refine mRemove_ok ⟨sv1, hH3⟩ hb fun M4 hS4 => ?_
      have hbl : (std PP w0).bld 40 [(0, .int .i64 k), (1, .int .i64 x)] = some (.agg #[.int .i64 k, .int .i64 x]) := by kernel_rfl
      simp only [shT_v, shCons_v, shA_v, shI_v, shNil_v, shB_v, hbl, ob_v]
      refine put_ok (e := (k, x)) hS4 (Nat.le_trans (rmv_len l x) hb) fun M5 hS5 => ?_
      have := hR M5 (by unfold lowE; rw [if_pos ⟨by rw [hf]; rfl, by omega⟩]; exact hS5.unfrm hle3)
      unfold lowB at this
      rw [hf, decide_eq_true (by omega)] at this; exact this

theorem mLen_ok {s : Nat} {l : List Ent} {Q : Asn} (h : SetH w0 F M tS s l Q) (hR : R (.int .i64 (l.length : Int)) M) : C PP w0 Id.model_Set_Len #[.pointer (some ⟨s, 0, none⟩)] R M := by
  apply model_Set_Len.go
  unfold model_Set_Len.T
  obtain ⟨sv, h1, h2, h3, h4, h5⟩ := h.see
  simp only [nc_v, ld_one W.c36, h3, ob_v, shS_sv, h5]
  exact hR

theorem mAll_ok {s : Nat} {l : List Ent} {Q : Asn} (h : SetH w0 F M tS s l Q) (hb : l.length ≤ 10000) (hR : ∀ M' F' x, Mem.le F F' → SetH w0 F' M' tS s l Q → RdE w0 F' x l → R (SV.v x) M') : C PP w0 Id.model_Set_All #[.pointer (some ⟨s, 0, none⟩)] R M := by
  apply model_Set_All.go
  unfold model_Set_All.T
  obtain ⟨sv, h1, h2, h3, h4, h5⟩ := h.see
  simp only [nc_v, ld_one W.c36, h3, ob_v, shS_sv]
  refine CloneE_ok h1 h4 (by omega) fun M1 s1 hH1 => ?_
  rw [shS_sv]
  -- it is written no more
  obtain ⟨r, ⟨r1, r2, rfl, q1, q2⟩, q3⟩ := hH1
  have q4 := q3.perm List.perm_append_comm
  have q5 := q4.aside.1
  have hF : ∀ x ∈ r1, F x.1 = Option.none := fun x hx => (q3.at_ x (List.mem_append_left _ hx)).2.1
  refine hR M1 (ext F r1) s1 (le_ext hF) ⟨sv, r2, q2, q5⟩ ?_
  have hs : SlK w0 F (ext F r1) 2 s1 (esV l) := by
    rcases q1 with ⟨rfl, hl, _⟩ | ⟨b, rest, e, e1, e2, e3, rfl⟩
    · rw [hl]; exact SlK.nil
    · have h6 := q3.at_ (b, esV l ++ rest, e) (by simp)
      refine .inr ⟨b, rest, e, e1, e2, e3, h6.2.1, h6.1, ?_⟩
      unfold ext
      simp
  exact hs.rdE

/-- One set takes all of another one. -/
theorem mJoin_ok {s t : Nat} {l m : List Ent} {Q : Asn} {sv tv : SV} (h : Holds w0 F M (star (row1 t [SV.v tv] tS) (star (Es tv m) (star (row1 s [SV.v sv] tS) (star (Es sv l) Q))))) (hb : l.length + m.length ≤ 10000)
    (h0 : (∃ e ∈ m, (fnd l e.2).isSome = true) → ∀ M' sv' tv', Holds w0 F M' (star (row1 t [SV.v tv'] tS) (star (Es tv' m) (star (row1 s [SV.v sv'] tS) (star (Es sv' l) Q)))) → R (.bool false) M')
    (h1 : (∀ e ∈ m, fnd l e.2 = none) → ∀ M' sv' tv', Holds w0 F M' (star (row1 t [SV.v tv'] tS) (star (Es tv' []) (star (row1 s [SV.v sv'] tS) (star (Es sv' (insAll l m)) Q)))) → R (.bool true) M') :
    C PP w0 Id.model_Set_Join #[.pointer (some ⟨s, 0, none⟩), .pointer (some ⟨t, 0, none⟩)] R M := by
  apply model_Set_Join.go
  intro pts H
  unfold model_Set_Join.T
  intro b hb0 hw0
  have hN := Holds.new h hb0 hw0 [.pointer (some ⟨s, 0, none⟩)] 37
  obtain ⟨F1, hle1, hown, hH⟩ := Holds.freeze1 hN
  generalize M.set b _ = M1 at hH ⊢
  have hbx : ∀ M', Mem.le F1 M' → rd w0 M' ⟨b, 0, none⟩ = some (.pointer (some ⟨s, 0, none⟩)) := fun M' hl => rd_own (o := 0) (hown.le hl)
  have ot := hH.own1
  have os := hH.right.right.own1
  have hts : t ≠ s := fun e => by
    subst e
    obtain ⟨r, ⟨r1, r2, rfl, q1, r3, r4, rfl, q2, r5, r6, rfl, q3, q4⟩, q5⟩ := hH
    have h9 := q5.nd
    have e1 : r1 = [(t, [SV.v tv], tS)] := q1
    have e2 : r5 = [(t, [SV.v sv], tS)] := q3
    rw [e1, e2] at h9
    simp at h9
  have hpt : rd w0 M1 ⟨t, 0, none⟩ = some (SV.v tv) := rd_own (o := 0) ot
  have hps : rd w0 M1 ⟨s, 0, none⟩ = some (SV.v sv) := rd_own (o := 0) os
  simp only [go_sem, Option.isNone_some, bs_false, hbx _ hH.fr]
  rw [ptr_ne (n := 0) Try.underlying37 (by kernel_rfl) hts ot os]
  simp only [ob_v, shB_v, bs_false, hpt, shS_sv]
  have hrt := hH.right.rdE
  have hrs := hH.right.right.right.rdE
  apply slices_ContainsFuncapi_Entry_api_Entry.go _ tv (Id.model_Set_Join_1, #[.pointer (some ⟨b, 0, none⟩)])
  unfold slices_ContainsFuncapi_Entry_api_Entry.T
  refine IdxE_ok (kf := (Id.model_Set_Join_1, #[.pointer (some ⟨b, 0, none⟩)])) (p := fun e => (fnd l e.2).isSome) hrt (by omega) (fun e M2 R' he l2 hR' => ?_) fun M2 l2 => ?_
  · show C PP w0 Id.model_Set_Join_1 #[.agg #[.int .i64 e.1, .int .i64 e.2], .pointer (some ⟨b, 0, none⟩)] R' M2
    apply model_Set_Join_1.go
    unfold model_Set_Join_1.T
    intro b3 hb3 hw3
    have l3 : Mem.le M2 (M2.set b3 (.row [.int .i64 e.1, .int .i64 e.2] 40)) := Mem.le_set _ hb3
    have o3 : Own w0 (M2.set b3 (.row [.int .i64 e.1, .int .i64 e.2] 40)) b3 [.int .i64 e.1, .int .i64 e.2] 40 := Own.new hw3
    generalize M2.set b3 (.row [.int .i64 e.1, .int .i64 e.2] 40) = M3 at l3 o3 ⊢
    have e1 : rd w0 M3 ⟨b3, 1, none⟩ = some (.int .i64 e.2) := rd_own (o := 1) o3
    have l13 := Mem.le_trans l2 l3
    have e2 := hbx M3 (Mem.le_trans hH.fr l13)
    simp only [go_sem, add_eq, Nat.zero_add, e1, e2]
    refine find_ok (sv := sv) (l := l) (rd_own (o := 0) (os.le l13)) (fun M' hl => rd_own (o := 0) (os.le (Mem.le_trans l13 hl))) (hrs.le l13) (by omega) fun M4 l4 => ?_
    rw [shI_v]
    have h9 := hR' M4 (Mem.le_trans l3 l4)
    have : decide (fndI l e.2 ≥ 0) = (fnd l e.2).isSome := by
      cases hf : fnd l e.2 with
      | none => rw [fndI_none hf]; rfl
      | some i => rw [fndI_some hf]; exact decide_eq_true (by omega)
    rw [this]; exact h9
  · rw [shI_v]
    have hH2 := hH.le l2
    cases hf : m.findIdx? (fun e => (fnd l e.2).isSome) with
    | some i =>
      obtain ⟨hi, h9, _⟩ := List.findIdx?_eq_some_iff_getElem.1 hf
      simp only [shB_v]
      rw [bs_decide, if_pos (by omega)]
      exact h0 ⟨m[i], List.getElem_mem hi, h9⟩ M2 sv tv (hH2.unfrm hle1)
    | none =>
      have hno : ∀ e ∈ m, fnd l e.2 = none := fun e he => by
        have := List.findIdx?_eq_none_iff.1 hf e he
        cases h9 : fnd l e.2 with
        | none => rfl
        | some i => rw [h9] at this; cases this
      simp only [shB_v]
      rw [bs_decide, if_neg (by omega), H.J1]
      unfold model_Set_Join.J1.T
      have hpt2 : rd w0 M2 ⟨t, 0, none⟩ = some (SV.v tv) := rd_own (o := 0) hH2.own1
      simp only [nc_v, ld_one W.c36, hpt2, ob_v, shS_sv]
      have hn := hH2.right.lenE
      -- the other set put by
      have key : ∀ (rest : List Ent) (j : Nat) (k : Nat) (done : List Ent) (M' : Mem), rest.length < k → m.drop j = rest → j ≤ m.length → done.length = l.length + j → SetH w0 F1 M' tS s done (star (row1 t [SV.v tv] tS) (star (Es tv m) Q)) → (insAll done rest = insAll l m) →
          model_Set_Join.L2 pts k (some ⟨t, 0, none⟩) ⟨b, 0, none⟩ tv ((tv.n : Nat) : Int) (j : Int) M' := by
        intro rest
        induction rest with
        | nil =>
          intro j k done M' hk hd hj hdl hS hi
          obtain ⟨k, rfl⟩ : ∃ k', k = k' + 1 := ⟨k - 1, by simp at hk; omega⟩
          rw [H.L2]
          unfold model_Set_Join.L2.T
          have : m.length ≤ j := List.drop_eq_nil_iff.1 hd
          rw [bs_decide, if_neg (by omega)]
          obtain ⟨sv', hX⟩ := hS
          have hX2 : Holds w0 F1 M' (star (row1 t [SV.v tv] tS) (star (Es tv m) (star (row1 s [SV.v sv'] tS) (star (Es sv' done) Q)))) := by
            obtain ⟨r, ⟨r1, r2, rfl, q1, r3, r4, rfl, q2, r5, r6, rfl, q3, r7, r8, rfl, q4, q5⟩, q6⟩ := hX
            refine ⟨r5 ++ (r7 ++ (r1 ++ (r3 ++ r8))), ⟨r5, _, rfl, q3, r7, _, rfl, q4, r1, _, rfl, q1, r3, r8, rfl, q2, q5⟩, q6.perm ?_⟩
            have e1 : r1 ++ (r3 ++ (r5 ++ (r7 ++ r8))) = ((r1 ++ r3) ++ (r5 ++ r7)) ++ r8 := by simp
            have e2 : r5 ++ (r7 ++ (r1 ++ (r3 ++ r8))) = ((r5 ++ r7) ++ (r1 ++ r3)) ++ r8 := by simp
            rw [e1, e2]
            exact List.perm_append_comm.append_right r8
          simp only [nc_v]
          have hdone : done = insAll l m := by simpa [insAll] using hi
          refine st_one W.c36 hX2.own1 (by simp) rfl rfl ?_
          have hX3 := hX2.upd1 (cs' := [SV.v ⟨none, 0, 0⟩]) (e' := tS)
          refine h1 hno _ sv' ⟨none, 0, 0⟩ (Holds.unfrm (F' := F1) ?_ hle1)
          rw [← hdone]
          obtain ⟨r, ⟨r1, r2, rfl, q1, r3, r4, rfl, q2, q3⟩, q4⟩ := hX3
          refine ⟨r1 ++ ([] ++ r4), ⟨r1, _, rfl, q1, [], r4, rfl, .inl ⟨rfl, rfl, rfl⟩, q3⟩, (q4.perm (r' := (r1 ++ ([] ++ r4)) ++ r3) ?_).drop⟩
          rw [List.nil_append, List.append_assoc]
          exact List.perm_append_comm.append_left r1
        | cons e rest ih =>
          intro j k done M' hk hd hj hdl hS hi
          obtain ⟨k, rfl⟩ : ∃ k', k = k' + 1 := ⟨k - 1, by simp at hk; omega⟩
          rw [H.L2]
          unfold model_Set_Join.L2.T
          have hlt : j < m.length := by
            apply Decidable.byContradiction
            intro hc
            rw [List.drop_of_length_le (by omega)] at hd; cases hd
          have hdx := List.drop_eq_getElem_cons hlt
          rw [hd] at hdx
          injection hdx with e1 e2
          have hmj : m[j]? = some e := by rw [List.getElem?_eq_getElem hlt, e1]
          rw [bs_decide, if_pos (by omega)]
          obtain ⟨sv', hX⟩ := hS
          have hrt' := hX.right.right.right.rdE
          refine rdE hrt' (Mem.le_refl _) j rfl hmj ?_
          refine boxE hX e.1 e.2 fun b4 F4 M4 hle4 hH4 hbx4 => ?_
          have hb4 := hbx M4 (Mem.le_trans hle4 hH4.fr)
          simp only [ld_one W.c37, hb4, ob_v, shP_v, (hbx4 _ hH4.fr).2.2, shA_v, shCons_v, shI_v, shNil_v]
          refine put_ok (e := e) ⟨sv', hH4⟩ (by omega) fun M5 hS5 => ?_
          rw [i64_succ (by omega)]
          exact ih (j + 1) k (ins done e) M5 (by simp at hk; omega) e2.symm (by omega) (by rw [ins_len]; omega) (hS5.unfrm hle4) hi
      refine ⟨m.length + 1, key m 0 (m.length + 1) l M2 (by omega) rfl (by omega) rfl ⟨sv, ?_⟩ rfl⟩
      obtain ⟨r, ⟨r1, r2, rfl, q1, r3, r4, rfl, q2, r5, r6, rfl, q3, r7, r8, rfl, q4, q5⟩, q6⟩ := hH2
      refine ⟨r5 ++ (r7 ++ (r1 ++ (r3 ++ r8))), ⟨r5, _, rfl, q3, r7, _, rfl, q4, r1, _, rfl, q1, r3, r8, rfl, q2, q5⟩, q6.perm ?_⟩
      have e1 : r1 ++ (r3 ++ (r5 ++ (r7 ++ r8))) = ((r1 ++ r3) ++ (r5 ++ r7)) ++ r8 := by simp
      have e2 : r5 ++ (r7 ++ (r1 ++ (r3 ++ r8))) = ((r5 ++ r7) ++ (r1 ++ r3)) ++ r8 := by simp
      rw [e1, e2]
      exact List.perm_append_comm.append_right r8

end
end Go.Proofs.Ytgnfbodlpolibaa.HL
