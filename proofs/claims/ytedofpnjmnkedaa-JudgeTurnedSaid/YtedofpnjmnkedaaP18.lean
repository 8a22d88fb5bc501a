/-
  Put together of many texts: HlA HlB HlC HlD HlE HlF HlH HlI HlS HlK HlX PoM OrM EnM HlL HlG GenId GenW Gen0 Gen1 Gen2 Gen3 Gen4 Gen5 Gen6 Gen7 Gen8 Gen9 Gen10 Gen11 Gen12 BkA OrA HlQ CmA EnA EnB MdA MdB EnC JuM MdS MpA JuA JuB JuC JuD JuE JuF JuG JuH DrM JuI BlM BiA BuA JuJ FlA LmB JuL JuN PoA PoB PoC DrA DrB DrC DrD DrL JuP JuQ JuR JuS JuT HlR.
-/
import Derived.Test.YtedofpnjmnkedaaP17
set_option linter.unusedVariables false
set_option linter.unusedSimpArgs false
set_option maxRecDepth 100000
namespace Go.Proofs.Ytedofpnjmnkedaa.HL
open Go.RowKit (Below)
open Go.Proofs
abbrev tPl : TypeId := 100
def vI (l : List Int) : List Value := l.map (Value.int .i64)
def vB (l : List Bool) : List Value := l.map Value.bool
def vN (l : List Nat) : List Value := l.map fun (n : Nat) => Value.int .i64 (n : Int)
theorem vI_one (l : List Int) : ∀ v ∈ vI l, onecell v = true := fun v hv => by
  obtain ⟨x, _, rfl⟩ := List.mem_map.1 hv; rfl
theorem vB_one (l : List Bool) : ∀ v ∈ vB l, onecell v = true := fun v hv => by
  obtain ⟨x, _, rfl⟩ := List.mem_map.1 hv; rfl
theorem vN_one (l : List Nat) : ∀ v ∈ vN l, onecell v = true := fun v hv => by
  obtain ⟨x, _, rfl⟩ := List.mem_map.1 hv; rfl
section
variable {w0 : World} {F0 F M : Mem} {R : Value → Mem → Prop}
structure Fz (w0 : World) (F : Mem) (x : SV) (v : Value) : Prop where
  n : x.n = 1
  a : x.a ≠ none
  c : ∀ M2, Mem.le F M2 → Cells w0 M2 x.a [v]
theorem Fz.le {F' : Mem} {x : SV} {v : Value} (h : Fz w0 F x v) (hl : Mem.le F F') : Fz w0 F' x v := ⟨h.n, h.a, fun M2 h2 => h.c M2 (Mem.le_trans hl h2)⟩
theorem bslF {t e : TypeId} {z : Value} (ht : PP.underlying t = some (.slice e)) (he : ElemOk PP e z 1) {v : Value} (hv : onecell v = true) (hc : Instr.fill (fun k => some (k * 1, 1)) ((Array.range (1 * 1)).map (z.cells[· % z.cells.size]!)) [(0, v)] = some #[v])
    {P : Asn} (h : Holds w0 F M P) {K : Value → Mem → Prop} (hK : ∀ M' F' x, Mem.le F F' → Holds w0 F' M' P → Fz w0 F' x v → K (SV.v x) M') : (std PP w0).bsl t 1 [(0, v)] K M := by
  refine bsl_e (n := 1) (cells := #[v]) ht he (by decide) hc fun b hb hw => ?_
  have h1 := Holds.new h hb hw (#[v] : Array Value).toList e
  obtain ⟨F3, hle3, hown3, hW3⟩ := Holds.freeze1 h1
  exact hK _ F3 ⟨some ⟨b, 0, none⟩, 1, 1⟩ hle3 hW3 ⟨rfl, by simp, fun M2 h2 => Cells.own (hown3.le h2) fun j v hj => by rw [Nat.zero_add]; exact hj⟩
def PX (w0 : World) (F0 F M : Mem) (p : Nat) (mo : Int) (hG hI hV hB sG sI sV sB : SV) (g : List Int) (i : List Bool) (v : List Int) (b : List Nat) (Q : Asn) : Prop :=
  Mem.le F0 F ∧ Holds w0 F M (star (row1 p [.int .i64 mo, SV.v hG, SV.v hI, SV.v hV, SV.v hB] tPl) (star (SlKA 1 sG (vI g)) (star (SlKA 1 sI (vB i)) (star (SlKA 1 sV (vI v)) (star (SlKA 1 sB (vN b)) Q)))))
section
variable {p : Nat} {mo : Int} {hG hI hV hB sG sI sV sB : SV} {g : List Int} {i : List Bool} {v : List Int} {b : List Nat} {Q : Asn}
theorem PX.ldG (h : PX w0 F0 F M p mo hG hI hV hB sG sI sV sB g i v b Q) : (std PP w0).ld 70 ⟨p, 1, none⟩ M = some (SV.v hG) := by rw [ld_one W.c70]; exact rd_own (o := 1) h.2.own1
theorem PX.ldI (h : PX w0 F0 F M p mo hG hI hV hB sG sI sV sB g i v b Q) : (std PP w0).ld 98 ⟨p, 2, none⟩ M = some (SV.v hI) := by rw [ld_one W.c98]; exact rd_own (o := 2) h.2.own1
theorem vlen {k : Nat} {s : SV} {l : List Value} {Q : Asn} (h : Holds w0 F M (star (SlKA 1 s l) Q)) : s.n = l.length := by
  have := (slkCells h).2.1
  omega
theorem PX.nG (h : PX w0 F0 F M p mo hG hI hV hB sG sI sV sB g i v b Q) : sG.n = g.length := by have := vlen (k := 1) h.2.right; rw [this]; simp [vI]
theorem PX.nI (h : PX w0 F0 F M p mo hG hI hV hB sG sI sV sB g i v b Q) : sI.n = i.length := by have := vlen (k := 1) h.2.right.right; rw [this]; simp [vB]
theorem PX.nV (h : PX w0 F0 F M p mo hG hI hV hB sG sI sV sB g i v b Q) : sV.n = v.length := by have := vlen (k := 1) h.2.right.right.right; rw [this]; simp [vI]
theorem PX.nB (h : PX w0 F0 F M p mo hG hI hV hB sG sI sV sB g i v b Q) : sB.n = b.length := by have := vlen (k := 1) h.2.right.right.right.right; rw [this]; simp [vN]
theorem slG {s : SV} {l : List Value} {Q : Asn} (h : Holds w0 F M (star (SlKA 1 s l) Q)) {t : TypeId} (ht : cell1 PP t = true) {x : Int} (j : Nat) (e : x = (j : Int)) {v : Value} (hv : l[j]? = some v) {K : Value → Prop} (hK : K v) :
    nc s.a fun a => (0 ≤ x ∧ x < ((s.n : Nat) : Int)) ∧ ob ((std PP w0).ld t (a.add (x.toNat * 1)) M) fun v => K v := by
  simp only [ld_one ht]
  exact rdv (slkCells h).1 (vlen (k := 1) h) j e hv hK
theorem PX.bI (h : PX w0 F0 F M p mo hG hI hV hB sG sI sV sB g i v b Q) {x : Int} {K : Value → Mem → Prop} (hK : ∀ M' F' y, Mem.le F F' → PX w0 F0 F' M' p mo hG hI hV hB sG sI sV sB g i v b Q → Fz w0 F' y (.int .i64 x) → K (SV.v y) M') : (std PP w0).bsl 70 1 [(0, .int .i64 x)] K M :=
  bslF Try.underlying70 W.e3 rfl (by kernel_rfl) h.2 fun M' F' y l1 h1 f1 => hK M' F' y l1 ⟨Mem.le_trans h.1 l1, h1⟩ f1
theorem PX.bB (h : PX w0 F0 F M p mo hG hI hV hB sG sI sV sB g i v b Q) {x : Bool} {K : Value → Mem → Prop} (hK : ∀ M' F' y, Mem.le F F' → PX w0 F0 F' M' p mo hG hI hV hB sG sI sV sB g i v b Q → Fz w0 F' y (.bool x) → K (SV.v y) M') : (std PP w0).bsl 98 1 [(0, .bool x)] K M :=
  bslF Try.underlying98 W.e4 rfl (by kernel_rfl) h.2 fun M' F' y l1 h1 f1 => hK M' F' y l1 ⟨Mem.le_trans h.1 l1, h1⟩ f1
theorem PX.bJ (h : PX w0 F0 F M p mo hG hI hV hB sG sI sV sB g i v b Q) {x : Int} {K : Value → Mem → Prop} (hK : ∀ M' F' y, Mem.le F F' → PX w0 F0 F' M' p mo hG hI hV hB sG sI sV sB g i v b Q → Fz w0 F' y (.int .i64 x) → K (SV.v y) M') : (std PP w0).bsl 66 1 [(0, .int .i64 x)] K M :=
  bslF Try.underlying66 W.e2 rfl (by kernel_rfl) h.2 fun M' F' y l1 h1 f1 => hK M' F' y l1 ⟨Mem.le_trans h.1 l1, h1⟩ f1
theorem PX.aG {y : SV} {x : Int} {G : Mem} (hy : Fz w0 G y (.int .i64 x)) (hl : Mem.le G F) (h : PX w0 F0 F M p mo hG hI hV hB sG sI sV sB g i v b Q) (hb : g.length ≤ 100000) {K : Value → Mem → Prop} (hK : ∀ M' s', PX w0 F0 F M' p mo hG hI hV hB s' sI sV sB (g ++ [x]) i v b Q → K (SV.v s') M') :
    (std PP w0).app #[70, 70] 70 [SV.v sG, SV.v y] K M := by
  obtain ⟨F1, k1, l1, k2⟩ := h.2.last
  have hn := h.nG
  refine appK Try.underlying70 W.e3 k1 (news := [.int .i64 x]) (by rw [hy.n]; rfl) (hy.c M (Mem.le_trans hl h.2.fr)) (fun e => absurd e hy.a) (vI_one [x]) (by decide) (by rw [hy.n]; omega) fun M' s' h' => ?_
  refine hK M' s' ⟨h.1, ?_⟩
  have := k2 _ _ h'
  rw [show vI g ++ [Value.int .i64 x] = vI (g ++ [x]) from by simp [vI]] at this
  exact this
theorem PX.aI {y : SV} {x : Bool} {G : Mem} (hy : Fz w0 G y (.bool x)) (hl : Mem.le G F) (h : PX w0 F0 F M p mo hG hI hV hB sG sI sV sB g i v b Q) (hb : i.length ≤ 100000) {K : Value → Mem → Prop} (hK : ∀ M' s', PX w0 F0 F M' p mo hG hI hV hB sG s' sV sB g (i ++ [x]) v b Q → K (SV.v s') M') :
    (std PP w0).app #[98, 98] 98 [SV.v sI, SV.v y] K M := by
  obtain ⟨F1, k1, l1, k2⟩ := h.2.last
  obtain ⟨F2, k3, l2, k4⟩ := k1.last
  have hn := h.nI
  refine appK Try.underlying98 W.e4 k3 (news := [.bool x]) (by rw [hy.n]; rfl) (hy.c M (Mem.le_trans hl h.2.fr)) (fun e => absurd e hy.a) (vB_one [x]) (by decide) (by rw [hy.n]; omega) fun M' s' h' => ?_
  refine hK M' s' ⟨h.1, ?_⟩
  have := k2 _ _ (k4 _ _ h')
  rw [show vB i ++ [Value.bool x] = vB (i ++ [x]) from by simp [vB]] at this
  exact this
theorem PX.aV {y : SV} {x : Int} {G : Mem} (hy : Fz w0 G y (.int .i64 x)) (hl : Mem.le G F) (h : PX w0 F0 F M p mo hG hI hV hB sG sI sV sB g i v b Q) (hb : v.length ≤ 100000) {K : Value → Mem → Prop} (hK : ∀ M' s', PX w0 F0 F M' p mo hG hI hV hB sG sI s' sB g i (v ++ [x]) b Q → K (SV.v s') M') :
    (std PP w0).app #[66, 66] 66 [SV.v sV, SV.v y] K M := by
  obtain ⟨F1, k1, l1, k2⟩ := h.2.last
  obtain ⟨F2, k3, l2, k4⟩ := k1.last
  obtain ⟨F3, k5, l3, k6⟩ := k3.last
  have hn := h.nV
  refine appK Try.underlying66 W.e2 k5 (news := [.int .i64 x]) (by rw [hy.n]; rfl) (hy.c M (Mem.le_trans hl h.2.fr)) (fun e => absurd e hy.a) (vI_one [x]) (by decide) (by rw [hy.n]; omega) fun M' s' h' => ?_
  refine hK M' s' ⟨h.1, ?_⟩
  have := k2 _ _ (k4 _ _ (k6 _ _ h'))
  rw [show vI v ++ [Value.int .i64 x] = vI (v ++ [x]) from by simp [vI]] at this
  exact this
theorem PX.wG {s : SV} (h : PX w0 F0 F M p mo hG hI hV hB sG sI sV sB g i v b Q) {K : Mem → Prop} (hK : ∀ M', PX w0 F0 F M' p mo s hI hV hB sG sI sV sB g i v b Q → K M') : (std PP w0).st 70 ⟨p, 1, none⟩ (SV.v s) (fun M' => K M') M := by
  refine st_one W.c70 h.2.own1 (by simp) rfl rfl (hK _ ⟨h.1, ?_⟩)
  exact h.2.upd1
theorem PX.wI {s : SV} (h : PX w0 F0 F M p mo hG hI hV hB sG sI sV sB g i v b Q) {K : Mem → Prop} (hK : ∀ M', PX w0 F0 F M' p mo hG s hV hB sG sI sV sB g i v b Q → K M') : (std PP w0).st 98 ⟨p, 2, none⟩ (SV.v s) (fun M' => K M') M := by
  refine st_one W.c98 h.2.own1 (by simp) rfl rfl (hK _ ⟨h.1, ?_⟩)
  exact h.2.upd1
theorem PX.wV {s : SV} (h : PX w0 F0 F M p mo hG hI hV hB sG sI sV sB g i v b Q) {K : Mem → Prop} (hK : ∀ M', PX w0 F0 F M' p mo hG hI s hB sG sI sV sB g i v b Q → K M') : (std PP w0).st 66 ⟨p, 3, none⟩ (SV.v s) (fun M' => K M') M := by
  refine st_one W.c66 h.2.own1 (by simp) rfl rfl (hK _ ⟨h.1, ?_⟩)
  exact h.2.upd1
theorem PX.wB {s : SV} (h : PX w0 F0 F M p mo hG hI hV hB sG sI sV sB g i v b Q) {K : Mem → Prop} (hK : ∀ M', PX w0 F0 F M' p mo hG hI hV s sG sI sV sB g i v b Q → K M') : (std PP w0).st 70 ⟨p, 4, none⟩ (SV.v s) (fun M' => K M') M := by
  refine st_one W.c70 h.2.own1 (by simp) rfl rfl (hK _ ⟨h.1, ?_⟩)
  exact h.2.upd1
end
def PoolA (p : Nat) (l : Pl) : Asn := fun r => ∃ sG sI sV sB : SV, star (row1 p [.int .i64 l.most, SV.v sG, SV.v sI, SV.v sV, SV.v sB] tPl) (star (SlKA 1 sG (vI l.gens)) (star (SlKA 1 sI (vB l.ins)) (star (SlKA 1 sV (vI l.vs)) (SlKA 1 sB (vN l.back))))) r
section
variable {p : Nat} {l : Pl} {Q : Asn}
theorem PoolA.open_ (h : Holds w0 F M (star (PoolA p l) Q)) : ∃ sG sI sV sB : SV, PX w0 F F M p l.most sG sI sV sB sG sI sV sB l.gens l.ins l.vs l.back Q := by
  obtain ⟨r, ⟨r1, r2, rfl, ⟨sG, sI, sV, sB, r3, r4, rfl, a1, r5, r6, rfl, a2, r7, r8, rfl, a3, r9, r10, rfl, a4, a5⟩, a6⟩, a7⟩ := h
  exact ⟨sG, sI, sV, sB, Mem.le_refl _, _, ⟨r3, r5 ++ (r7 ++ (r9 ++ (r10 ++ r2))), by simp, a1, r5, _, rfl, a2, r7, _, rfl, a3, r9, _, rfl, a4, r10, _, rfl, a5, a6⟩, a7⟩
theorem PX.close {mo : Int} {sG sI sV sB : SV} {g : List Int} {i : List Bool} {v : List Int} {b : List Nat} (h : PX w0 F0 F M p mo sG sI sV sB sG sI sV sB g i v b Q) : Holds w0 F0 M (star (PoolA p ⟨mo, g, i, v, b⟩) Q) := by
  refine Holds.unfrm ?_ h.1
  obtain ⟨r, ⟨r3, r4, rfl, a1, r5, r6, rfl, a2, r7, r8, rfl, a3, r9, r10, rfl, a4, r11, r12, rfl, a5, a6⟩, a7⟩ := h.2
  exact ⟨_, ⟨r3 ++ (r5 ++ (r7 ++ (r9 ++ r11))), r12, by simp, ⟨sG, sI, sV, sB, r3, _, rfl, a1, r5, _, rfl, a2, r7, _, rfl, a3, r9, _, rfl, a4, a5⟩, a6⟩, a7⟩
theorem rPNew_ok {n : Int} (h : Holds w0 F M Q) (h0 : 0 ≤ n) (h1 : n ≤ 65536) (hR : ∀ M' p, Holds w0 F M' (star (PoolA p ⟨n, [], [], [], []⟩) Q) → R (.pointer (some ⟨p, 0, none⟩)) M') : C PP w0 Id.p2_New #[.int .i64 n] R M := by
  apply p2_New.go
  unfold p2_New.T
  have hx : (if 0 > (if 65536 < n then 65536 else n) then 0 else (if 65536 < n then 65536 else n)) = n := by
    rw [if_neg (show ¬ 65536 < n by omega), if_neg (by omega)]
  rw [hx]
  have hb : (std PP w0).bld tPl [(0, .int .i64 n)] = some (.agg #[.int .i64 n, .slice none 0 0, .slice none 0 0, .slice none 0 0, .slice none 0 0]) := by kernel_rfl
  rw [hb]
  simp only [ob_v, shA_v, shCons_v, shI_v, shS_v, shNil_v]
  intro p hp0 hpw
  have g := Holds.new h hp0 hpw [.int .i64 n, SV.v ⟨none, 0, 0⟩, SV.v ⟨none, 0, 0⟩, SV.v ⟨none, 0, 0⟩, SV.v ⟨none, 0, 0⟩] tPl
  refine hR _ p ?_
  obtain ⟨F1, k1, _, k2⟩ := g.last
  have k3 := k2 _ _ (Holds.nilSlk (k := 1) (Holds.nilSlk (k := 1) (Holds.nilSlk (k := 1) (Holds.nilSlk (k := 1) k1))))
  have : PX w0 F F _ p n ⟨none, 0, 0⟩ ⟨none, 0, 0⟩ ⟨none, 0, 0⟩ ⟨none, 0, 0⟩ ⟨none, 0, 0⟩ ⟨none, 0, 0⟩ ⟨none, 0, 0⟩ ⟨none, 0, 0⟩ [] [] [] [] Q := ⟨Mem.le_refl _, k3⟩
  exact this.close
theorem rLook_ok {a g : Int} (h : Holds w0 F M (star (PoolA p l) Q)) (hok : PlOk l) (hR : ∀ M', Mem.le M M' → R (.int .i64 (l.look a g)) M') : C PP w0 Id.pP_Look #[.pointer (some ⟨p, 0, none⟩), .agg #[.int .i64 a, .int .i64 g]] R M := by
  apply pP_Look.go
  intro pts H
  unfold pP_Look.T
  intro b1 hb0 hbw
  have l1 : Mem.le M (M.set b1 (.row [.int .i64 a, .int .i64 g] 25)) := Mem.le_set _ hb0
  have o1 : Own w0 (M.set b1 (.row [.int .i64 a, .int .i64 g] 25)) b1 [.int .i64 a, .int .i64 g] 25 := Own.new hbw
  generalize M.set b1 _ = M1 at l1 o1 ⊢
  obtain ⟨sG, sI, sV, sB, hX⟩ := PoolA.open_ (h.le l1)
  have e0 : rd w0 M1 ⟨b1, 0, none⟩ = some (.int .i64 a) := rd_own (o := 0) o1
  have e1 : rd w0 M1 ⟨b1, 1, none⟩ = some (.int .i64 g) := rd_own (o := 1) o1
  have hn := hX.nG
  have hi := hX.nI
  unfold Pl.look at hR
  simp only [nc_v, ld_one W.c3, add_eq, Nat.zero_add, e0, e1, hX.ldG, ob_v, shI_v, shS_sv]
  rw [bs_decide]
  split
  · rename_i c1; rw [if_pos (.inl c1)] at hR; exact hR M1 l1
  · rename_i c1
    rw [bs_decide]
    split
    · rename_i c2; rw [if_pos (.inr (.inl (by omega)))] at hR; exact hR M1 l1
    · rename_i c2
      rw [bs_decide]
      split
      · rename_i c3; rw [if_pos (.inr (.inr (.inl c3)))] at hR; exact hR M1 l1
      · rename_i c3
        have hlt : a.toNat < l.gens.length := by omega
        have hga : l.gens[a.toNat]? = some (l.gens.getD a.toNat 0) := by rw [List.getD_eq_getElem?_getD, List.getElem?_eq_getElem hlt]; rfl
        have hia : l.ins[a.toNat]? = some (l.ins.getD a.toNat false) := by rw [List.getD_eq_getElem?_getD, List.getElem?_eq_getElem (by rw [hok.li]; exact hlt)]; rfl
        have vga : (vI l.gens)[a.toNat]? = some (.int .i64 (l.gens.getD a.toNat 0)) := by unfold vI; rw [List.getElem?_map, hga]; rfl
        have via : (vB l.ins)[a.toNat]? = some (.bool (l.ins.getD a.toNat false)) := by unfold vB; rw [List.getElem?_map, hia]; rfl
        generalize l.gens.getD a.toNat 0 = x at hR vga
        generalize l.ins.getD a.toNat false = y at hR via
        have hre := rdv (slkCells hX.2.right).1 (vlen (k := 1) hX.2.right) a.toNat (i := a) (by omega) vga (K := fun v => shI .i64 v fun n21 => bs (decide (g > n21)) (R (.int .i64 22) M1) (pP_Look.J1 pts (some ⟨p, 0, none⟩) ⟨b1, 0, none⟩ M1))
        refine hre ?_
        rw [shI_v, bs_decide]
        split
        · rename_i c4; rw [if_pos (.inr (.inr (.inr c4)))] at hR; exact hR M1 l1
        · rename_i c4
          rw [if_neg (by omega)] at hR
          rw [H.J1]
          unfold pP_Look.J1.T
          simp only [nc_v, ld_one W.c3, add_eq, Nat.zero_add, e0, e1, hX.ldG, hX.ldI, ob_v, shI_v, shS_sv]
          refine rdv (slkCells hX.2.right).1 (vlen (k := 1) hX.2.right) a.toNat (i := a) (by omega) vga ?_
          rw [shI_v, bs_decide]
          split
          · rename_i c5; rw [if_pos (.inl c5)] at hR; exact hR M1 l1
          · rename_i c5
            refine slG hX.2.right.right W.c4 (x := a) a.toNat (by omega) via ?_
            rw [shB_v, bs_not]
            cases y with
            | false => rw [bs_false]; rw [if_pos (.inr rfl)] at hR; exact hR M1 l1
            | true =>
              rw [bs_true]
              rw [if_neg (fun hh => by rcases hh with hh | hh; exact c5 hh; cases hh)] at hR
              exact hR M1 l1
end
end
end Go.Proofs.Ytedofpnjmnkedaa.HL
set_option linter.unusedVariables false
set_option linter.unusedSimpArgs false
set_option maxRecDepth 100000
namespace Go.Proofs.Ytedofpnjmnkedaa.HL
open Go.RowKit (Below)
open Go.Proofs
section
variable {w0 : World} {F0 F M : Mem} {R : Value → Mem → Prop}
section
variable {p : Nat} {mo : Int} {hG hI hV hB sG sI sV sB : SV} {g : List Int} {i : List Bool} {v : List Int} {b : List Nat} {Q : Asn}
theorem PX.rG (h : PX w0 F0 F M p mo hG hI hV hB sG sI sV sB g i v b Q) : rd w0 M ⟨p, 1, none⟩ = some (SV.v hG) := rd_own (o := 1) h.2.own1
theorem PX.rI (h : PX w0 F0 F M p mo hG hI hV hB sG sI sV sB g i v b Q) : rd w0 M ⟨p, 2, none⟩ = some (SV.v hI) := rd_own (o := 2) h.2.own1
theorem PX.rV (h : PX w0 F0 F M p mo hG hI hV hB sG sI sV sB g i v b Q) : rd w0 M ⟨p, 3, none⟩ = some (SV.v hV) := rd_own (o := 3) h.2.own1
theorem PX.rB (h : PX w0 F0 F M p mo hG hI hV hB sG sI sV sB g i v b Q) : rd w0 M ⟨p, 4, none⟩ = some (SV.v hB) := rd_own (o := 4) h.2.own1
theorem PX.eG (h : PX w0 F0 F M p mo hG hI hV hB sG sI sV sB g i v b Q) {t : TypeId} (ht : cell1 PP t = true) {x : Int} (a : Nat) (e : x = (a : Int)) (ha : a < g.length) {y : Int} {K : Mem → Prop} (hK : ∀ M', PX w0 F0 F M' p mo hG hI hV hB sG sI sV sB (g.set a y) i v b Q → K M') :
    nc sG.a fun ad => (0 ≤ x ∧ x < ((sG.n : Nat) : Int)) ∧ (std PP w0).st t (ad.add (x.toNat * 1)) (.int .i64 y) (fun M' => K M') M := by
  have hn := h.nG
  obtain ⟨F1, k1, l1, k2⟩ := h.2.last
  refine stK0 ht k1 a e (by omega) (by decide) rfl rfl fun M' h' => hK M' ⟨h.1, ?_⟩
  have := k2 _ _ h'
  rw [Nat.mul_one, show (vI g).set a (.int .i64 y) = vI (g.set a y) from by unfold vI; rw [List.map_set]] at this
  exact this
theorem PX.eI (h : PX w0 F0 F M p mo hG hI hV hB sG sI sV sB g i v b Q) {t : TypeId} (ht : cell1 PP t = true) {x : Int} (a : Nat) (e : x = (a : Int)) (ha : a < i.length) {y : Bool} {K : Mem → Prop} (hK : ∀ M', PX w0 F0 F M' p mo hG hI hV hB sG sI sV sB g (i.set a y) v b Q → K M') :
    nc sI.a fun ad => (0 ≤ x ∧ x < ((sI.n : Nat) : Int)) ∧ (std PP w0).st t (ad.add (x.toNat * 1)) (.bool y) (fun M' => K M') M := by
  have hn := h.nI
  obtain ⟨F1, k1, l1, k2⟩ := h.2.last
  obtain ⟨F2, k3, l2, k4⟩ := k1.last
  refine stK0 ht k3 a e (by omega) (by decide) rfl rfl fun M' h' => hK M' ⟨h.1, ?_⟩
  have := k2 _ _ (k4 _ _ h')
  rw [Nat.mul_one, show (vB i).set a (.bool y) = vB (i.set a y) from by unfold vB; rw [List.map_set]] at this
  exact this
theorem PX.eV (h : PX w0 F0 F M p mo hG hI hV hB sG sI sV sB g i v b Q) {t : TypeId} (ht : cell1 PP t = true) {x : Int} (a : Nat) (e : x = (a : Int)) (ha : a < v.length) {y : Int} {K : Mem → Prop} (hK : ∀ M', PX w0 F0 F M' p mo hG hI hV hB sG sI sV sB g i (v.set a y) b Q → K M') :
    nc sV.a fun ad => (0 ≤ x ∧ x < ((sV.n : Nat) : Int)) ∧ (std PP w0).st t (ad.add (x.toNat * 1)) (.int .i64 y) (fun M' => K M') M := by
  have hn := h.nV
  obtain ⟨F1, k1, l1, k2⟩ := h.2.last
  obtain ⟨F2, k3, l2, k4⟩ := k1.last
  obtain ⟨F3, k5, l3, k6⟩ := k3.last
  refine stK0 ht k5 a e (by omega) (by decide) rfl rfl fun M' h' => hK M' ⟨h.1, ?_⟩
  have := k2 _ _ (k4 _ _ (k6 _ _ h'))
  rw [Nat.mul_one, show (vI v).set a (.int .i64 y) = vI (v.set a y) from by unfold vI; rw [List.map_set]] at this
  exact this
theorem PX.q (h : PX w0 F0 F M p mo hG hI hV hB sG sI sV sB g i v b Q) : Holds w0 F M Q := h.2.right.right.right.right.right
theorem PX.mapQ {Q' : Asn} (h : PX w0 F0 F M p mo hG hI hV hB sG sI sV sB g i v b Q) {M' : Mem} (hh : ∀ F', Holds w0 F' M Q → Holds w0 F' M' Q') : PX w0 F0 F M' p mo hG hI hV hB sG sI sV sB g i v b Q' := by
  refine ⟨h.1, ?_⟩
  obtain ⟨F1, k1, _, k2⟩ := h.2.last
  obtain ⟨F2, k3, _, k4⟩ := k1.last
  obtain ⟨F3, k5, _, k6⟩ := k3.last
  obtain ⟨F4, k7, _, k8⟩ := k5.last
  obtain ⟨F5, k9, _, k10⟩ := k7.last
  exact k2 _ _ (k4 _ _ (k6 _ _ (k8 _ _ (k10 _ _ (hh F5 k9)))))
theorem PX.aG2 (h : PX w0 F0 F M p mo hG hI hV hB sG sI sV sB g i v b Q) {y : SV} {x : Int} {G : Mem} (hy : Fz w0 G y (.int .i64 x)) (hl : Mem.le G F) (hb : g.length ≤ 100000) {K : Value → Mem → Prop} (hK : ∀ M' s', PX w0 F0 F M' p mo hG hI hV hB s' sI sV sB (g ++ [x]) i v b Q → K (SV.v s') M') :
    (std PP w0).app #[70, 70] 70 [SV.v sG, SV.v y] K M := PX.aG hy hl h hb hK
theorem PX.aI2 (h : PX w0 F0 F M p mo hG hI hV hB sG sI sV sB g i v b Q) {y : SV} {x : Bool} {G : Mem} (hy : Fz w0 G y (.bool x)) (hl : Mem.le G F) (hb : i.length ≤ 100000) {K : Value → Mem → Prop} (hK : ∀ M' s', PX w0 F0 F M' p mo hG hI hV hB sG s' sV sB g (i ++ [x]) v b Q → K (SV.v s') M') :
    (std PP w0).app #[98, 98] 98 [SV.v sI, SV.v y] K M := PX.aI hy hl h hb hK
theorem PX.aV2 (h : PX w0 F0 F M p mo hG hI hV hB sG sI sV sB g i v b Q) {y : SV} {x : Int} {G : Mem} (hy : Fz w0 G y (.int .i64 x)) (hl : Mem.le G F) (hb : v.length ≤ 100000) {K : Value → Mem → Prop} (hK : ∀ M' s', PX w0 F0 F M' p mo hG hI hV hB sG sI s' sB g i (v ++ [x]) b Q → K (SV.v s') M') :
    (std PP w0).app #[66, 66] 66 [SV.v sV, SV.v y] K M := PX.aV hy hl h hb hK
theorem PX.pop {x : Nat} {bs : List Nat} (h : PX w0 F0 F M p mo hG hI hV hB sG sI sV sB g i v (bs ++ [x]) Q) : sB.a.isSome = true ∧ sB.c ≠ 0 ∧ sB.n = bs.length + 1 ∧ (∀ ad, sB.a = some ad → ad.add 0 = ad) ∧ sB.n ≤ sB.c ∧ PX w0 F0 F M p mo hG hI hV hB sG sI sV ⟨sB.a, sB.n - 1, sB.c⟩ g i v bs Q := by
  have hn := h.nB
  rw [List.length_append, List.length_singleton] at hn
  obtain ⟨F1, k1, _, k2⟩ := h.2.last
  obtain ⟨F2, k3, _, k4⟩ := k1.last
  obtain ⟨F3, k5, _, k6⟩ := k3.last
  obtain ⟨F4, k7, _, k8⟩ := k5.last
  obtain ⟨blk, rest, e, ha, h1, h2, h3⟩ := SlKA.row k7 (by omega)
  have hv : vN (bs ++ [x]) = vN bs ++ [.int .i64 (x : Int)] := by simp [vN]
  have hl : (vN bs).length = bs.length := by simp [vN]
  rw [hv, List.append_assoc] at h3
  rw [hv, List.length_append, List.length_singleton, hl] at h1 h2
  refine ⟨by rw [ha]; rfl, by omega, hn, fun ad had => ?_, by omega, h.1, ?_⟩
  · rw [ha] at had; cases had
    rw [add_eq]
  · refine k2 _ _ (k4 _ _ (k6 _ _ (k8 _ _ ?_)))
    rw [ha]
    exact SlKA.ofRow h3 (by rw [hl]; omega) (by rw [hl]; simp; omega)
end
section
variable {p : Nat} {l : Pl} {Q : Asn}
theorem resRef {b1 : Nat} {c0 c1 : Value} {x y : Int} {P : Asn} (hN : Holds w0 F M (star (row1 b1 [c0, c1] 25) P)) {K : Value → Mem → Prop} (hK : ∀ M', (∀ F' P', Holds w0 F' M (star (row1 b1 [c0, c1] 25) P') → Holds w0 F' M' P') → K (.agg #[.int .i64 x, .int .i64 y]) M') :
    (std PP w0).st 25 ⟨b1, 0, none⟩ (.agg #[.int .i64 x, .int .i64 y]) (fun M14 => ob ((std PP w0).rdv 25 (.pointer (some ⟨b1, 0, none⟩)) M14) fun v15 => K v15 M14) M := by
  refine st_agg (vs := [.int .i64 x, .int .i64 y]) W.g25 hN.own1 (by simp) (by intro v hv; simp only [List.mem_cons, List.not_mem_nil, or_false] at hv; rcases hv with rfl | rfl <;> rfl) ?_
  have hP2 := hN.upd1 (cs' := over [c0, c1] 0 [.int .i64 x, .int .i64 y]) (e' := 25)
  have o2 : Own w0 _ b1 [.int .i64 x, .int .i64 y] 25 := hP2.own1
  rw [rdv_ptr, ld_agg (cs := [.int .i64 x, .int .i64 y]) W.g25 (fun j v hj => by rw [add_eq, rd_own o2, Nat.zero_add]; exact hj), ob_v]
  exact hK _ fun F' P' h' => (h'.upd1 (cs' := over [c0, c1] 0 [.int .i64 x, .int .i64 y]) (e' := 25)).right
theorem rTake_ok {v : Int} (h : Holds w0 F M (star (PoolA p l) Q)) (hok : PlOk l) (hs : l.gens.length ≤ 10000) (hbl : l.back.length ≤ 10000) (hg : ∀ g ∈ l.gens, 0 ≤ g ∧ g ≤ 1000000)
    (h0 : l.at_ = none → ∀ M', Holds w0 F M' (star (PoolA p l) Q) → R (.tuple #[.agg #[.int .i64 0, .int .i64 0], .bool false]) M')
    (h1 : ∀ a, l.at_ = some a → ∀ M', Holds w0 F M' (star (PoolA p (l.take a v)) Q) → R (.tuple #[.agg #[.int .i64 (a : Int), .int .i64 (l.gen a)], .bool true]) M') :
    C PP w0 Id.pP_Take #[.pointer (some ⟨p, 0, none⟩), .int .i64 v] R M := by
  apply pP_Take.go
  intro pts H
  unfold pP_Take.T
  intro b1 hb0 hbw
  have g1 := (Holds.new h hb0 hbw [.int .i64 0, .int .i64 0] 25).rot
  change Holds w0 F (M.set b1 (.row [.int .i64 0, .int .i64 0] 25)) (star (PoolA p l) (star (row1 b1 [.int .i64 0, .int .i64 0] 25) Q)) at g1
  generalize M.set b1 _ = M1 at g1 ⊢
  obtain ⟨sG, sI, sV, sB, hX⟩ := PoolA.open_ g1
  have hnG := hX.nG
  have hnB := hX.nB
  have hli := hok.li
  have hlv := hok.lv
  have keyJ1 : ∀ (M' F' : Mem) (sG sI sV sB : SV) (mo : Int) (gs : List Int) (is_ : List Bool) (vs : List Int) (bs_ : List Nat) (a : Nat), PX w0 F F' M' p mo sG sI sV sB sG sI sV sB gs is_ vs bs_ (star (row1 b1 [.int .i64 0, .int .i64 0] 25) Q) →
      a < gs.length → is_.length = gs.length → vs.length = gs.length → (0 ≤ gs.getD a 0 ∧ gs.getD a 0 ≤ 1000000) →
      (∀ M'', Holds w0 F M'' (star (PoolA p ⟨mo, gs.set a (gs.getD a 0 + 1), is_.set a true, vs.set a v, bs_⟩) Q) → R (.tuple #[.agg #[.int .i64 (a : Int), .int .i64 (gs.getD a 0 + 1)], .bool true]) M'') →
      pP_Take.J1 pts (some ⟨p, 0, none⟩) v ⟨b1, 0, none⟩ (a : Int) M' := by
    intro M' F' sG sI sV sB mo gs is_ vs bs_ a hX ha h2 h3 hga hR
    rw [H.J1]
    unfold pP_Take.J1.T
    have vga : (vI gs)[a]? = some (.int .i64 (gs.getD a 0)) := by unfold vI; rw [List.getElem?_map, List.getD_eq_getElem?_getD, List.getElem?_eq_getElem ha]; rfl
    generalize gs.getD a 0 = x at hR vga hga
    have eG := hX.rG
    simp only [nc_v, ld_one W.c70, ld_one W.c98, ld_one W.c66, add_eq, Nat.zero_add, eG, ob_v, shS_sv]
    refine slG hX.2.right W.c3 (x := (a : Int)) a rfl vga ?_
    rw [shI_v, w64_in (by omega)]
    refine hX.eG W.c3 a rfl ha fun M2 hX2 => ?_
    simp only [hX2.rI, hX2.rV, ob_v, shS_sv]
    refine hX2.eI W.c4 a rfl (by omega) fun M3 hX3 => ?_
    refine hX3.eV W.c2 a rfl (by omega) fun M4 hX4 => ?_
    simp only [hX4.rG, ob_v, shS_sv]
    refine slG hX4.2.right W.c3 (x := (a : Int)) a rfl (v := .int .i64 (x + 1)) (by unfold vI; rw [List.getElem?_map, List.getElem?_set_self ha]; rfl) ?_
    rw [shI_v]
    have hbld : (std PP w0).bld 25 [(0, .int .i64 (a : Int)), (1, .int .i64 (x + 1))] = some (.agg #[.int .i64 (a : Int), .int .i64 (x + 1)]) := by kernel_rfl
    rw [hbld]
    simp only [ob_v, shA_v, shCons_v, shI_v, shNil_v]
    refine resRef hX4.q (K := fun v M => R (.tuple #[v, .bool true]) M) fun M5 hback => ?_
    exact hR M5 (hX4.mapQ fun F' h' => hback F' _ h').close
  have hG := hX.rG
  have hI := hX.rI
  have hV := hX.rV
  have hB := hX.rB
  have hmo : rd w0 M1 ⟨p, 0, none⟩ = some (.int .i64 l.most) := rd_own (o := 0) hX.2.own1
  simp only [nc_v, ld_one W.c3, ld_one W.c70, ld_one W.c98, ld_one W.c66, add_eq, Nat.zero_add, hG, hI, hV, hB, hmo, ob_v, shS_sv, shI_v]
  rw [bs_decide]
  split
  · -- one that was given back
    rename_i hpos
    obtain ⟨bs, x, hbs⟩ : ∃ bs x, l.back = bs ++ [x] := by
      rcases List.eq_nil_or_concat l.back with e | ⟨bs, x, e⟩
      · rw [e] at hnB; simp at hnB; omega
      · exact ⟨bs, x, by rw [e, List.concat_eq_append]⟩
    have hat : l.at_ = some x := by unfold Pl.at_; rw [hbs]; simp
    have hlast : l.back.getLast? = some x := by rw [hbs]; simp
    have hgr : l.grow = { l with back := bs } := by
      unfold Pl.grow
      rw [hlast]
      simp [hbs]
    obtain ⟨hx1, hx2⟩ := hok.bk x (by rw [hbs]; simp)
    rw [hbs] at hX
    obtain ⟨q1, q2, q3, q4, q5, hX2⟩ := hX.pop
    have hw : w64 (((sB.n : Nat) : Int) - 1) = ((bs.length : Nat) : Int) := by rw [w64_in (by have := hX.nB; omega)]; omega
    rw [hw]
    have hld := hX.2.right.right.right.right
    refine rdv (slkCells hld).1 (vlen (k := 1) hld) bs.length rfl (v := .int .i64 (x : Int)) (by unfold vN; rw [List.getElem?_map, List.getElem?_append_right (Nat.le_refl _)]; simp) ?_
    rw [shI_v]
    refine ⟨⟨by omega, by omega, by omega⟩, ?_⟩
    have hsl : (Value.slice (if sB.c = (0 : Int).toNat then sB.a else sB.a.map (·.add ((0 : Int).toNat * 1))) (((bs.length : Nat) : Int).toNat - (0 : Int).toNat) (sB.c - (0 : Int).toNat)) = SV.v ⟨sB.a, sB.n - 1, sB.c⟩ := by
      rw [Int.toNat_zero, if_neg q2, Int.toNat_natCast, Nat.sub_zero, Nat.sub_zero, Nat.zero_mul]
      unfold SV.v
      simp only
      congr 1
      · cases hsa : sB.a with
        | none => rfl
        | some ad => simp only [Option.map_some]; rw [q4 ad hsa]
      · omega
    rw [hsl]
    refine hX2.wB fun M2 hX3 => ?_
    refine keyJ1 M2 F sG sI sV ⟨sB.a, sB.n - 1, sB.c⟩ l.most l.gens l.ins l.vs bs x hX3 hx1 hli hlv ?_ fun M3 h3 => ?_
    · rw [List.getD_eq_getElem?_getD, List.getElem?_eq_getElem hx1]
      exact hg _ (List.getElem_mem hx1)
    · have := h1 x hat M3
      unfold Pl.take Pl.gen Pl.put at this
      rw [hgr] at this
      exact this h3
  · rename_i hpos
    have hbn : l.back = [] := List.eq_nil_of_length_eq_zero (by omega)
    have hlast : l.back.getLast? = none := by rw [hbn]; rfl
    rw [bs_decide]
    split
    · rename_i hm
      have hat : l.at_ = none := by unfold Pl.at_; rw [hlast]; simp only; rw [if_pos (by omega)]
      have hbld : (std PP w0).bld 25 [] = some (.agg #[.int .i64 0, .int .i64 0]) := by kernel_rfl
      rw [hbld]
      simp only [ob_v, shA_v, shCons_v, shI_v, shNil_v]
      refine resRef hX.q (K := fun v M => R (.tuple #[v, .bool false]) M) fun M5 hback => ?_
      exact h0 hat M5 (hX.mapQ fun F' h' => hback F' _ h').close
    · rename_i hm
      have hat : l.at_ = some l.gens.length := by unfold Pl.at_; rw [hlast]; simp only; rw [if_neg (by omega)]
      have hgr : l.grow = { l with gens := l.gens ++ [0], ins := l.ins ++ [false], vs := l.vs ++ [0] } := by unfold Pl.grow; rw [hlast]
      have fin : ∀ (M' F' : Mem) (s1 s2 s3 : SV), PX w0 F F' M' p l.most sG sI sV sB s1 s2 s3 sB (l.gens ++ [0]) (l.ins ++ [false]) (l.vs ++ [0]) l.back (star (row1 b1 [.int .i64 0, .int .i64 0] 25) Q) →
          (std PP w0).st 70 ⟨p, 1, none⟩ (SV.v s1) (fun M61 => (std PP w0).st 98 ⟨p, 2, none⟩ (SV.v s2) (fun M63 => (std PP w0).st 66 ⟨p, 3, none⟩ (SV.v s3) (fun M65 => pP_Take.J1 pts (some ⟨p, 0, none⟩) v ⟨b1, 0, none⟩ ((sG.n : Nat) : Int) M65) M63) M61) M' := by
        intro M' F' s1 s2 s3 hY
        refine hY.wG fun M2 hY2 => ?_
        refine hY2.wI fun M3 hY3 => ?_
        refine hY3.wV fun M4 hY4 => ?_
        rw [hnG]
        refine keyJ1 M4 F' s1 s2 s3 sB l.most _ _ _ l.back l.gens.length hY4 (by simp) (by simp [hli]) (by simp [hlv]) ?_ fun M5 h5 => ?_
        · rw [List.getD_eq_getElem?_getD, List.getElem?_append_right (Nat.le_refl _)]; simp
        · have := h1 _ hat M5
          unfold Pl.take Pl.gen Pl.put at this
          rw [hgr] at this
          exact this h5
      repeat' first
        | with_reducible exact PX.rG (by assumption)
        | with_reducible exact PX.rI (by assumption)
        | with_reducible exact PX.rV (by assumption)
        | with_reducible exact fin _ _ _ _ _ (by assumption)
        | (with_reducible refine PX.bI (by assumption) fun _ _ _ _ _ _ => ?_; rw [shS_sv])
        | (with_reducible refine PX.bB (by assumption) fun _ _ _ _ _ _ => ?_; rw [shS_sv])
        | (with_reducible refine PX.bJ (by assumption) fun _ _ _ _ _ _ => ?_; rw [shS_sv])
        | (with_reducible refine PX.aG2 (by assumption) (by assumption) (by first | exact Mem.le_refl _ | assumption | exact Mem.le_trans (by assumption) (by assumption)) (by omega) fun _ _ _ => ?_; rw [shS_sv])
        | (with_reducible refine PX.aI2 (by assumption) (by assumption) (by first | exact Mem.le_refl _ | assumption | exact Mem.le_trans (by assumption) (by assumption)) (by omega) fun _ _ _ => ?_; rw [shS_sv])
        | (with_reducible refine PX.aV2 (by assumption) (by assumption) (by first | exact Mem.le_refl _ | assumption | exact Mem.le_trans (by assumption) (by assumption)) (by omega) fun _ _ _ => ?_; rw [shS_sv])
        | refine ⟨?_, ?_⟩
end
end
end Go.Proofs.Ytedofpnjmnkedaa.HL
set_option linter.unusedVariables false
set_option linter.unusedSimpArgs false
set_option maxRecDepth 100000
namespace Go.Proofs.Ytedofpnjmnkedaa.HL
open Go.RowKit (Below)
open Go.Proofs
section
variable {w0 : World} {F0 F M : Mem} {R : Value → Mem → Prop}
section
variable {p : Nat} {mo : Int} {hG hI hV hB sG sI sV sB : SV} {g : List Int} {i : List Bool} {v : List Int} {b : List Nat} {Q : Asn}
theorem PX.focus (h : PX w0 F0 F M p mo hG hI hV hB sG sI sV sB g i v b Q) : ∃ F5, Holds w0 F5 M Q ∧ ∀ M' Q', Holds w0 F5 M' Q' → PX w0 F0 F M' p mo hG hI hV hB sG sI sV sB g i v b Q' := by
  obtain ⟨F1, k1, _, k2⟩ := h.2.last
  obtain ⟨F2, k3, _, k4⟩ := k1.last
  obtain ⟨F3, k5, _, k6⟩ := k3.last
  obtain ⟨F4, k7, _, k8⟩ := k5.last
  obtain ⟨F5, k9, _, k10⟩ := k7.last
  exact ⟨F5, k9, fun M' Q' hh => ⟨h.1, k2 _ _ (k4 _ _ (k6 _ _ (k8 _ _ (k10 _ _ hh))))⟩⟩
theorem PX.nB0 (h : PX w0 F0 F M p mo hG hI hV hB sG sI sV sB g i v b Q) {K : Value → Mem → Prop} (hK : ∀ M' s, PX w0 F0 F M' p mo hG hI hV hB sG sI sV sB g i v b (star (SlKA 1 s []) Q) → K (SV.v s) M') : (std PP w0).bsl 70 0 [] K M := by
  obtain ⟨F5, k, back⟩ := h.focus
  refine bsl_e (cells := #[]) Try.underlying70 W.e3 (by decide) (by kernel_rfl) fun bb hb hw => ?_
  have l1 : Mem.le M (M.set bb (.row (#[] : Array Value).toList 3)) := Mem.le_set _ hb
  exact hK _ ⟨some ⟨bb, 0, none⟩, 0, 0⟩ (back _ _ (Holds.newSlk k l1 (SlK.new (n := 0) hb (Own.new hw) rfl)))
theorem PX.nA1 {s : SV} (h : PX w0 F0 F M p mo hG hI hV hB sG sI sV sB g i v b (star (SlKA 1 s []) Q)) (hb : b.length ≤ 100000) {K : Value → Mem → Prop} (hK : ∀ M' s', PX w0 F0 F M' p mo hG hI hV hB sG sI sV sB g i v b (star (SlKA 1 s' (vN b)) Q) → K (SV.v s') M') :
    (std PP w0).app #[70, 70] 70 [SV.v s, SV.v sB] K M := by
  obtain ⟨F5, k, back⟩ := h.focus
  have e6 := slkCells h.2.right.right.right.right
  have hn := h.nB
  have n0 : s.n = 0 := by have := (slkCells k).2.1; simp at this; omega
  refine appK Try.underlying70 W.e3 k e6.2.1 e6.1 e6.2.2 (vN_one _) (by decide) (by omega) fun M' s' h' => ?_
  exact hK M' s' (back _ _ h')
theorem PX.nA2 {s y : SV} {x : Nat} {G : Mem} (h : PX w0 F0 F M p mo hG hI hV hB sG sI sV sB g i v b (star (SlKA 1 s (vN b)) Q)) (hy : Fz w0 G y (.int .i64 (x : Int))) (hl : Mem.le G F) (hb : b.length ≤ 100000) {K : Value → Mem → Prop} (hK : ∀ M' s', PX w0 F0 F M' p mo hG hI hV hB sG sI sV sB g i v b (star (SlKA 1 s' (vN (b ++ [x]))) Q) → K (SV.v s') M') :
    (std PP w0).app #[70, 70] 70 [SV.v s, SV.v y] K M := by
  obtain ⟨F5, k, back⟩ := h.focus
  have n0 : s.n = b.length := by have := vlen (k := 1) k; rw [this]; simp [vN]
  refine appK Try.underlying70 W.e3 k (news := [.int .i64 (x : Int)]) (by rw [hy.n]; rfl) (hy.c M (Mem.le_trans hl h.2.fr)) (fun e => absurd e hy.a) (vN_one [x]) (by decide) (by rw [hy.n]; omega) fun M' s' h' => ?_
  refine hK M' s' (back _ _ ?_)
  rw [show vN b ++ [Value.int .i64 (x : Int)] = vN (b ++ [x]) from by simp [vN]] at h'
  exact h'
theorem PX.newBack {s : SV} {b' : List Nat} (h : PX w0 F0 F M p mo hG hI hV hB sG sI sV sB g i v b (star (SlKA 1 s (vN b')) Q)) : PX w0 F0 F M p mo hG hI hV hB sG sI sV s g i v b' Q := by
  refine ⟨h.1, ?_⟩
  obtain ⟨F1, k1, _, k2⟩ := h.2.last
  obtain ⟨F2, k3, _, k4⟩ := k1.last
  obtain ⟨F3, k5, _, k6⟩ := k3.last
  obtain ⟨F4, k7, _, k8⟩ := k5.last
  exact k2 _ _ (k4 _ _ (k6 _ _ (k8 _ _ k7.right)))
end
section
variable {p : Nat} {l : Pl} {Q : Asn}
theorem Pl.look_ok {a g : Int} (hok : PlOk l) (h : l.look a g = 0) : ∃ n : Nat, a = (n : Int) ∧ n < l.gens.length ∧ l.ins[n]? = some true ∧ l.gens[n]? = some g := by
  unfold Pl.look at h
  split at h
  · cases h
  · rename_i h1
    split at h
    · cases h
    · rename_i h2
      have hlt : a.toNat < l.gens.length := by omega
      refine ⟨a.toNat, by omega, hlt, ?_, ?_⟩
      · have : l.ins.getD a.toNat false = true := by
          cases hx : l.ins.getD a.toNat false with
          | true => rfl
          | false => exact absurd (.inr hx) h2
        rw [List.getD_eq_getElem?_getD, List.getElem?_eq_getElem (by rw [hok.li]; exact hlt)] at this
        rw [List.getElem?_eq_getElem (by rw [hok.li]; exact hlt)]
        simpa using this
      · have : l.gens.getD a.toNat 0 = g := by omega
        rw [List.getD_eq_getElem?_getD, List.getElem?_eq_getElem hlt] at this
        rw [List.getElem?_eq_getElem hlt]
        simpa using this
theorem rGive_ok {a g : Int} (h : Holds w0 F M (star (PoolA p l) Q)) (hok : PlOk l) (hbl : l.back.length ≤ 10000)
    (h0 : l.look a g ≠ 0 → ∀ M', Holds w0 F M' (star (PoolA p l) Q) → R (.tuple #[.int .i64 0, .int .i64 (l.look a g)]) M')
    (h1 : ∀ n : Nat, a = (n : Int) → l.look a g = 0 → ∀ M', Holds w0 F M' (star (PoolA p (l.give n)) Q) → R (.tuple #[.int .i64 (l.vs.getD n 0), .int .i64 0]) M') :
    C PP w0 Id.pP_Give #[.pointer (some ⟨p, 0, none⟩), .agg #[.int .i64 a, .int .i64 g]] R M := by
  apply pP_Give.go
  unfold pP_Give.T
  intro b1 hb0 hbw
  have g1 := (Holds.new h hb0 hbw [.int .i64 a, .int .i64 g] 25).rot
  change Holds w0 F (M.set b1 (.row [.int .i64 a, .int .i64 g] 25)) (star (PoolA p l) (star (row1 b1 [.int .i64 a, .int .i64 g] 25) Q)) at g1
  generalize M.set b1 _ = M1 at g1 ⊢
  have o1 := g1.right.own1
  rw [ld_agg (cs := [.int .i64 a, .int .i64 g]) W.g25 (fun j v hj => by rw [add_eq, rd_own o1, Nat.zero_add]; exact hj)]
  simp only [ob_v, shA_v, shCons_v, shI_v, shNil_v]
  refine rLook_ok g1 hok fun M2 l2 => ?_
  have g2 := g1.le l2
  have strip : ∀ {M4 : Mem} {l' : Pl}, Holds w0 F M4 (star (PoolA p l') (star (row1 b1 [.int .i64 a, .int .i64 g] 25) Q)) → Holds w0 F M4 (star (PoolA p l') Q) := fun g => by
    obtain ⟨F', k1, _, k2⟩ := g.last
    exact k2 _ _ k1.right
  rw [shI_v, bs_bne]
  split
  · rename_i hz
    obtain ⟨n, rfl, hlt, hin, hgn⟩ := Pl.look_ok hok hz
    obtain ⟨sG, sI, sV, sB, hX⟩ := PoolA.open_ g2
    have e0 : ∀ {M' : Mem} {F' : Mem} {mo : Int} {hG hI hV hB sG sI sV sB : SV} {gs : List Int} {is_ : List Bool} {vs : List Int} {bs_ : List Nat}, PX w0 F F' M' p mo hG hI hV hB sG sI sV sB gs is_ vs bs_ (star (row1 b1 [.int .i64 (n : Int), .int .i64 g] 25) Q) → rd w0 M' ⟨b1, 0, none⟩ = some (.int .i64 (n : Int)) := fun hY => rd_own (o := 0) hY.q.own1
    have e0' : ∀ {M' : Mem} {F' : Mem} {mo : Int} {hG hI hV hB sG sI sV sB : SV} {gs : List Int} {is_ : List Bool} {vs : List Int} {bs_ : List Nat} {X : Asn}, PX w0 F F' M' p mo hG hI hV hB sG sI sV sB gs is_ vs bs_ (star X (star (row1 b1 [.int .i64 (n : Int), .int .i64 g] 25) Q)) → rd w0 M' ⟨b1, 0, none⟩ = some (.int .i64 (n : Int)) := fun hY => rd_own (o := 0) hY.q.right.own1
    simp only [nc_v, ld_one W.c98, ld_one W.c3, add_eq, Nat.zero_add, hX.rI, e0 hX, ob_v, shS_sv, shI_v]
    refine hX.eI W.c4 n rfl (by rw [hok.li]; exact hlt) fun M3 hX3 => ?_
    simp only [nc_v, ld_one W.c70, ld_one W.c66, ld_one W.c3, ld_one W.c2, add_eq, Nat.zero_add, hX3.rB, e0 hX3, ob_v, shS_sv, shI_v]
    have fin : ∀ (M' F' : Mem) (s : SV), PX w0 F F' M' p l.most sG sI sV sB sG sI sV sB l.gens (l.ins.set n false) l.vs l.back (star (SlKA 1 s (vN (l.back ++ [n]))) (star (row1 b1 [.int .i64 (n : Int), .int .i64 g] 25) Q)) →
        (std PP w0).st 70 ⟨p, 4, none⟩ (SV.v s) (fun M39 => ob (rd w0 M39 ⟨p, 3, none⟩) fun v41 => shS v41 fun s42 => ob (rd w0 M39 ⟨b1, 0, none⟩) fun v43 => shI .i64 v43 fun n44 => nc s42.a fun a45 => (0 ≤ n44 ∧ n44 < ((s42.n : Nat) : Int)) ∧ ob (rd w0 M39 (a45.add (n44.toNat * 1))) fun v46 => shI .i64 v46 fun n47 => R (.tuple #[.int .i64 n47, .int .i64 0]) M39) M' := by
      intro M' F' s hY
      refine PX.wB hY fun M4 hY4 => ?_
      have hY5 := hY4.newBack
      simp only [hY5.rV, e0 hY5, ob_v, shS_sv, shI_v]
      have hlv : n < l.vs.length := by rw [hok.lv]; exact hlt
      refine rdv (slkCells hY5.2.right.right.right).1 (vlen (k := 1) hY5.2.right.right.right) n rfl (v := .int .i64 (l.vs.getD n 0)) (by unfold vI; rw [List.getElem?_map, List.getD_eq_getElem?_getD, List.getElem?_eq_getElem hlv]; rfl) ?_
      rw [shI_v]
      exact h1 n rfl hz M4 (strip hY5.close)
    repeat' first
      | with_reducible exact PX.rB (by assumption)
      | with_reducible exact e0 (by assumption)
      | with_reducible exact e0' (by assumption)
      | with_reducible exact fin _ _ _ (by assumption)
      | (with_reducible refine PX.nB0 (by assumption) fun _ _ _ => ?_; rw [shS_sv])
      | (with_reducible refine PX.bI (by assumption) fun _ _ _ _ _ _ => ?_; rw [shS_sv])
      | (with_reducible refine PX.nA1 (by assumption) (by omega) fun _ _ _ => ?_; rw [shS_sv])
      | (with_reducible refine PX.nA2 (by assumption) (by assumption) (by first | exact Mem.le_refl _ | assumption) (by omega) fun _ _ _ => ?_; rw [shS_sv])
      | refine ⟨?_, ?_⟩
  · rename_i hz
    exact h0 hz M2 (strip g2)
end
end
end Go.Proofs.Ytedofpnjmnkedaa.HL
set_option linter.unusedVariables false
set_option linter.unusedSimpArgs false
set_option maxRecDepth 100000
namespace Go.Proofs.Ytedofpnjmnkedaa.HL
open Go.RowKit (Below)
open Go.Proofs
abbrev tD : TypeId := 53
abbrev tJb : TypeId := 74
def jdC (j : Jb) : List Value := [.int .i64 j.queue, .int .i64 j.data, .int .i64 j.key, .int .i64 j.ser, .int .i64 j.at_, .int .i64 j.gen]
theorem jdC_len (j : Jb) : (jdC j).length = 6 := rfl
theorem jdC_one (j : Jb) : ∀ v ∈ jdC j, onecell v = true := by
  intro v hv
  simp only [jdC, List.mem_cons, List.not_mem_nil, or_false] at hv
  rcases hv with rfl | rfl | rfl | rfl | rfl | rfl <;> rfl
abbrev jdV (l : List Jb) : List Value := l.flatMap jdC
theorem jdV_len (l : List Jb) : (jdV l).length = l.length * 6 := flat_len jdC_len l
theorem jdV_one (l : List Jb) : ∀ v ∈ jdV l, onecell v = true := flat_one jdC_one _
def Jb.v (j : Jb) : Value := .agg #[.int .i64 j.queue, .int .i64 j.data, .int .i64 j.key, .int .i64 j.ser, .int .i64 j.at_, .int .i64 j.gen]
theorem jdV_take (l : List Jb) (i : Nat) : jdV (l.take i) = (jdV l).take (i * 6) := by
  by_cases hi : i ≤ l.length
  · have h : jdV l = jdV (l.take i) ++ jdV (l.drop i) := by rw [← List.flatMap_append, List.take_append_drop]
    rw [h]; exact (List.take_left' (by rw [jdV_len, List.length_take]; omega)).symm
  · rw [List.take_of_length_le (by omega), List.take_of_length_le (by rw [jdV_len]; omega)]
theorem jdV_drop (l : List Jb) (i : Nat) : jdV (l.drop i) = (jdV l).drop (i * 6) := by
  by_cases hi : i ≤ l.length
  · have h : jdV l = jdV (l.take i) ++ jdV (l.drop i) := by rw [← List.flatMap_append, List.take_append_drop]
    rw [h]; exact (List.drop_left' (by rw [jdV_len, List.length_take]; omega)).symm
  · rw [List.drop_of_length_le (by omega), List.drop_of_length_le (by rw [jdV_len]; omega)]; rfl
section
variable {w0 : World} {F M : Mem} {R : Value → Mem → Prop}
theorem eqRefU {X Y : Operand} (a g b k : Int) : (std PP w0).bq .eql 25 X Y (.agg #[.int .i64 a, .int .i64 g]) (.agg #[.int .i64 b, .int .i64 k]) = some (.bool (a == b && g == k)) := by
  have := eql_struct (P := PP) (w0 := w0) (X := X) (Y := Y) (es := [a == b, g == k]) (xs := #[.int .i64 a, .int .i64 g]) (ys := #[.int .i64 b, .int .i64 k]) Try.underlying25 (by kernel_rfl) (by kernel_rfl)
    ⟨by decide, ⟨.int .i64 a, .int .i64 b, by kernel_rfl, by kernel_rfl, equal_int Try.underlying3 a b⟩, by decide, ⟨.int .i64 g, .int .i64 k, by kernel_rfl, by kernel_rfl, equal_int Try.underlying3 g k⟩, trivial⟩
  rw [show ([a == b, g == k] : List Bool).all id = (a == b && g == k) from by simp [List.all]] at this
  exact this
theorem cellsTail {s : SV} {cs : List Value} {k i : Nat} (hc : Cells w0 M s.a cs) (hl : cs.length = s.n * k) (hcap : s.n ≤ s.c) : Cells w0 M (if s.c = i then s.a else s.a.map (·.add (i * k))) (cs.drop (i * k)) := fun j v hj => by
  rw [List.getElem?_drop] at hj
  obtain ⟨ad, ha, hr⟩ := hc _ v hj
  have hlt := (List.getElem?_eq_some_iff.1 hj).1
  rw [if_neg (fun e => by
    have : s.n * k ≤ i * k := Nat.mul_le_mul_right k (by omega)
    omega)]
  refine ⟨ad.add (i * k), by rw [ha]; rfl, ?_⟩
  rw [add_add]; exact hr
theorem cellsHead {s : SV} {cs : List Value} {m : Nat} (hc : Cells w0 M s.a cs) : Cells w0 M (if s.c = 0 then s.a else s.a.map (·.add 0)) (cs.take m) := fun j v hj => by
  have hj2 : cs[j]? = some v := by
    rw [List.getElem?_take] at hj
    split at hj
    · exact hj
    · cases hj
  obtain ⟨ad, ha, hr⟩ := hc _ v hj2
  refine ⟨ad, ?_, hr⟩
  rw [ha]
  split
  · rfl
  · simp [Addr.add]
def DispA (d : Nat) (x : D22) : Asn := fun r => ∃ (p : Nat) (s : SV), star (row1 d [.int .i64 x.most, .int .i64 x.now, .int .i64 x.next, .pointer (some ⟨p, 0, none⟩), SV.v s] tD) (star (SlKA 6 s (jdV x.l)) (PoolA p x.pool)) r
section
variable {d : Nat} {x : D22} {Q : Asn}
abbrev DH (w0 : World) (F M : Mem) (d : Nat) (x : D22) (p : Nat) (s : SV) (Q : Asn) : Prop := Holds w0 F M (star (row1 d [.int .i64 x.most, .int .i64 x.now, .int .i64 x.next, .pointer (some ⟨p, 0, none⟩), SV.v s] tD) (star (SlKA 6 s (jdV x.l)) (star (PoolA p x.pool) Q)))
theorem DispA.open_ (h : Holds w0 F M (star (DispA d x) Q)) : ∃ p s, DH w0 F M d x p s Q := by
  obtain ⟨r, ⟨r1, r2, rfl, ⟨p, s, r3, r4, rfl, a1, r5, r6, rfl, a2, a3⟩, a4⟩, a5⟩ := h
  exact ⟨p, s, _, ⟨r3, r5 ++ (r6 ++ r2), by simp, a1, r5, _, rfl, a2, r6, _, rfl, a3, a4⟩, a5⟩
theorem DH.close {p : Nat} {s : SV} (h : DH w0 F M d x p s Q) : Holds w0 F M (star (DispA d x) Q) := by
  obtain ⟨r, ⟨r3, r4, rfl, a1, r5, r6, rfl, a2, r7, r8, rfl, a3, a4⟩, a5⟩ := h
  exact ⟨_, ⟨r3 ++ (r5 ++ r7), r8, by simp, ⟨p, s, r3, _, rfl, a1, r5, _, rfl, a2, a3⟩, a4⟩, a5⟩
theorem DH.n {p : Nat} {s : SV} (h : DH w0 F M d x p s Q) : s.n = x.l.length := Holds.nR jdC_len (by decide) h.right
theorem DH.job {p : Nat} {s : SV} (h : DH w0 F M d x p s Q) {i : Nat} {j : Jb} (hj : x.l[i]? = some j) : ∃ blk, s.a = some ⟨blk, 0, none⟩ ∧ s.n = x.l.length ∧ i < s.n ∧ ∀ f v, (jdC j)[f]? = some v → rd w0 M ⟨blk, i * 6 + f, none⟩ = some v := Holds.adR jdC_len (by decide) h.right hj
theorem DH.rl {p : Nat} {s : SV} (h : DH w0 F M d x p s Q) : rd w0 M ⟨d, 4, none⟩ = some (SV.v s) := rd_own (o := 4) h.own1
theorem DH.rp {p : Nat} {s : SV} (h : DH w0 F M d x p s Q) : rd w0 M ⟨d, 3, none⟩ = some (.pointer (some ⟨p, 0, none⟩)) := rd_own (o := 3) h.own1
theorem DH.rn {p : Nat} {s : SV} (h : DH w0 F M d x p s Q) : rd w0 M ⟨d, 1, none⟩ = some (.int .i64 x.now) := rd_own (o := 1) h.own1
theorem DH.rx {p : Nat} {s : SV} (h : DH w0 F M d x p s Q) : rd w0 M ⟨d, 2, none⟩ = some (.int .i64 x.next) := rd_own (o := 2) h.own1
theorem DH.pool {p : Nat} {s : SV} (h : DH w0 F M d x p s Q) : ∃ F1, Holds w0 F1 M (star (PoolA p x.pool) Q) ∧ ∀ M' pl' Q', Holds w0 F1 M' (star (PoolA p pl') Q') → DH w0 F M' d { x with pool := pl' } p s Q' := by
  obtain ⟨F1, k1, _, k2⟩ := h.last
  obtain ⟨F2, k3, _, k4⟩ := k1.last
  exact ⟨F2, k3, fun M' pl' Q' hh => k2 _ _ (k4 _ _ hh)⟩
theorem dAt_ok {a g : Int} (h : Holds w0 F M (star (DispA d x) Q)) (hL : x.l.length ≤ 10000) (hR : ∀ M', Mem.le M M' → R (.int .i64 (match atD x.l a g with | none => -1 | some k => (k : Int))) M') :
    C PP w0 Id.dD_at #[.pointer (some ⟨d, 0, none⟩), .agg #[.int .i64 a, .int .i64 g]] R M := by
  apply dD_at.go
  intro pts H
  unfold dD_at.T
  intro b1 hb0 hbw
  have l1 : Mem.le M (M.set b1 (.row [.int .i64 a, .int .i64 g] 25)) := Mem.le_set _ hb0
  have o1 : Own w0 (M.set b1 (.row [.int .i64 a, .int .i64 g] 25)) b1 [.int .i64 a, .int .i64 g] 25 := Own.new hbw
  generalize M.set b1 _ = M1 at l1 o1 ⊢
  obtain ⟨p, s, hs⟩ := DispA.open_ (h.le l1)
  have hn := hs.n
  have ldr : (std PP w0).ld 25 ⟨b1, 0, none⟩ M1 = some (.agg #[.int .i64 a, .int .i64 g]) := ld_agg (cs := [.int .i64 a, .int .i64 g]) W.g25 (fun j v hj => by rw [add_eq, rd_own o1, Nat.zero_add]; exact hj)
  have key : ∀ (n i : Nat), i ≤ x.l.length → x.l.length < i + n → (∀ k, k < i → ∀ j, x.l[k]? = some j → ¬ (j.at_ = a ∧ j.gen = g)) → dD_at.L1 pts n (some ⟨d, 0, none⟩) ⟨b1, 0, none⟩ (i : Int) M1 := by
    intro n
    induction n with
    | zero => intro i h1 h2; omega
    | succ n ih =>
      intro i hi1 hi2 hno
      rw [H.L1]
      unfold dD_at.L1.T
      simp only [nc_v, ld_one W.c51, add_eq, Nat.zero_add, hs.rl, ob_v, shS_sv]
      rw [bs_decide]
      split
      · have hlt : i < x.l.length := by omega
        have hj := List.getElem?_eq_getElem hlt
        have hjj : x.l[i] = x.l[i] := rfl
        generalize hg : x.l[i] = j at hj
        obtain ⟨blk, hsa, _, hin, hrd⟩ := hs.job hj
        have lda : (std PP w0).ld 25 ⟨blk, i * 6 + 4, none⟩ M1 = some (.agg #[.int .i64 j.at_, .int .i64 j.gen]) := ld_agg (cs := [.int .i64 j.at_, .int .i64 j.gen]) W.g25 (fun f v hf => by
          rw [add_eq]
          match f, hf with
          | 0, hf => exact hrd 4 _ hf
          | 1, hf => exact hrd 5 _ hf)
        simp only [hsa, nc_v, Int.toNat_natCast, add_eq, Nat.zero_add, lda, ldr, ob_v, shA_v, shCons_v, shI_v, shB_v, shNil_v, eqRefU]
        refine ⟨⟨by omega, by omega⟩, ?_⟩
        rw [bs_b]
        refine ⟨fun he => ?_, fun he => ?_⟩
        · simp only [Bool.and_eq_true, beq_iff_eq] at he
          have hf : atD x.l a g = some i := by
            unfold atD
            refine List.findIdx?_eq_some_iff_getElem.2 ⟨hlt, ?_, fun k hk => ?_⟩
            · rw [hg]; simp [he.1, he.2]
            · have hkl : k < x.l.length := by omega
              have := hno k hk _ (List.getElem?_eq_getElem hkl)
              simpa using this
          have := hR M1 l1
          rw [hf] at this
          exact this
        · rw [i64_succ (by omega)]
          refine ih (i + 1) (by omega) (by omega) fun k hk y hy => ?_
          by_cases hki : k = i
          · subst hki
            rw [hj] at hy; cases hy
            intro hh
            simp [hh.1, hh.2] at he
          · exact hno k (by omega) y hy
      · have hii : i = x.l.length := by omega
        have hf : atD x.l a g = none := by
          unfold atD
          refine List.findIdx?_eq_none_iff.2 fun j hj => ?_
          obtain ⟨k, hk⟩ := List.getElem?_of_mem hj
          have := hno k (by have := (List.getElem?_eq_some_iff.1 hk).1; omega) j hk
          simpa using this
        have := hR M1 l1
        rw [hf] at this
        exact this
  exact ⟨_, key (x.l.length + 1) 0 (by omega) (by omega) (fun k hk => by omega)⟩
theorem dCount_ok {q : Int} (h : Holds w0 F M (star (DispA d x) Q)) (hL : x.l.length ≤ 10000) (hR : R (.int .i64 (countD q x.l : Int)) M) :
    C PP w0 Id.dD_Count #[.pointer (some ⟨d, 0, none⟩), .int .i64 q] R M := by
  apply dD_Count.go
  intro pts H
  unfold dD_Count.T
  obtain ⟨p, s, hs⟩ := DispA.open_ h
  have hn := hs.n
  have key : ∀ (n i : Nat), i ≤ x.l.length → x.l.length < i + n → dD_Count.L1 pts n (some ⟨d, 0, none⟩) q ((countD q (x.l.take i) : Nat) : Int) (i : Int) M := by
    intro n
    induction n with
    | zero => intro i h1 h2; omega
    | succ n ih =>
      intro i hi1 hi2
      rw [H.L1]
      unfold dD_Count.L1.T
      simp only [nc_v, ld_one W.c51, ld_one W.c3, add_eq, Nat.zero_add, hs.rl, ob_v, shS_sv]
      rw [bs_decide]
      split
      · have hlt : i < x.l.length := by omega
        have hj := List.getElem?_eq_getElem hlt
        have htk : x.l.take (i + 1) = x.l.take i ++ [x.l[i]] := by rw [List.take_add_one, hj]; rfl
        generalize x.l[i] = j at hj htk
        obtain ⟨blk, hsa, _, hin, hrd⟩ := hs.job hj
        have eq : rd w0 M ⟨blk, i * 6, none⟩ = some (.int .i64 j.queue) := hrd 0 _ rfl
        simp only [hsa, nc_v, Int.toNat_natCast, add_eq, Nat.zero_add, eq, ob_v, shI_v]
        refine ⟨⟨by omega, by omega⟩, ?_⟩
        have hle : countD q (x.l.take i) ≤ x.l.length := Nat.le_trans List.countP_le_length (by rw [List.length_take]; omega)
        have hct : countD q (x.l.take (i + 1)) = countD q (x.l.take i) + (if j.queue = q then 1 else 0) := by
          rw [htk]; unfold countD
          rw [List.countP_append, List.countP_singleton]
          simp
        rw [bs_beq, i64_succ (i := i) (by omega), i64_succ (by omega)]
        split
        · rename_i hq
          rw [if_pos hq] at hct
          rw [← hct]
          exact ih (i + 1) (by omega) (by omega)
        · rename_i hq
          rw [if_neg hq] at hct
          rw [show countD q (x.l.take i) = countD q (x.l.take (i + 1)) from by omega]
          exact ih (i + 1) (by omega) (by omega)
      · have hii : i = x.l.length := by omega
        rw [hii, List.take_length]; exact hR
  exact ⟨_, key (x.l.length + 1) 0 (by omega) (by omega)⟩
def accI : Option (Nat × Ent) → Int
  | none => -1
  | some y => (y.1 : Int)
theorem dFirst_ok {q : Int} (h : Holds w0 F M (star (DispA d x) Q)) (hL : x.l.length ≤ 10000) (hR : ∀ M', Mem.le M M' → R (.int .i64 (accI (firstD x.l q))) M') :
    C PP w0 Id.dD_first #[.pointer (some ⟨d, 0, none⟩), .int .i64 q] R M := by
  apply dD_first.go
  intro pts H
  unfold dD_first.T
  have key : ∀ (n i : Nat) (acc : Option (Nat × Ent)) (M' : Mem), Mem.le M M' → i ≤ x.l.length → x.l.length < i + n → firstD x.l q = firstG q i (x.l.drop i) acc → (∀ y, acc = some y → ∃ j, x.l[y.1]? = some j ∧ y.2 = j.e) →
      dD_first.L1 pts n (some ⟨d, 0, none⟩) q (accI acc) (i : Int) M' := by
    intro n
    induction n with
    | zero => intro i acc M' _ h1 h2; omega
    | succ n ih =>
      intro i acc M' hle hi1 hi2 hfi hac
      rw [H.L1]
      unfold dD_first.L1.T
      obtain ⟨p, s, hs⟩ := DispA.open_ (h.le hle)
      have hn := hs.n
      simp only [nc_v, ld_one W.c51, ld_one W.c3, add_eq, Nat.zero_add, hs.rl, ob_v, shS_sv]
      rw [bs_decide]
      split
      · have hlt : i < x.l.length := by omega
        have hj := List.getElem?_eq_getElem hlt
        have hdr : x.l.drop i = x.l[i] :: x.l.drop (i + 1) := List.drop_eq_getElem_cons hlt
        rw [hdr] at hfi
        generalize x.l[i] = j at hj hfi
        rw [firstG] at hfi
        obtain ⟨blk, hsa, _, hin, hrd⟩ := hs.job hj
        have eq : rd w0 M' ⟨blk, i * 6, none⟩ = some (.int .i64 j.queue) := hrd 0 _ rfl
        have ldE : ∀ {i : Nat} {j : Jb}, x.l[i]? = some j → (std PP w0).ld 64 ⟨blk, i * 6 + 2, none⟩ M' = some (.agg #[.int .i64 j.key, .int .i64 j.ser]) := fun {i j} hj => by
          obtain ⟨blk', hsa', _, _, hrd⟩ := hs.job hj
          rw [hsa] at hsa'; cases hsa'
          exact ld_agg (cs := [.int .i64 j.key, .int .i64 j.ser]) W.g64 (fun f v hf => by
            rw [add_eq]
            match f, hf with
            | 0, hf => exact hrd 2 _ hf
            | 1, hf => exact hrd 3 _ hf)
        simp only [hsa, nc_v, Int.toNat_natCast, add_eq, Nat.zero_add, eq, ob_v, shI_v]
        have hbd : 0 ≤ (i : Int) ∧ (i : Int) < ((s.n : Nat) : Int) := ⟨by omega, by omega⟩
        refine ⟨hbd, ?_⟩
        rw [i64_succ (by omega), bs_beq]
        have take : (j.queue = q ∧ befD acc j.e = true) → ∀ M2, Mem.le M M2 → dD_first.L1 pts n (some ⟨d, 0, none⟩) q (i : Int) ((i + 1 : Nat) : Int) M2 := fun hc M2 l2 => by
          rw [if_pos hc] at hfi
          exact ih (i + 1) (some (i, j.e)) M2 l2 (by omega) (by omega) hfi (fun y hy => by cases hy; exact ⟨j, hj, rfl⟩)
        have skip : ¬ (j.queue = q ∧ befD acc j.e = true) → ∀ M2, Mem.le M M2 → dD_first.L1 pts n (some ⟨d, 0, none⟩) q (accI acc) ((i + 1 : Nat) : Int) M2 := fun hc M2 l2 => by
          rw [if_neg hc] at hfi
          exact ih (i + 1) acc M2 l2 (by omega) (by omega) hfi hac
        split
        · rename_i hq
          rw [bs_decide]
          cases acc with
          | none =>
            rw [if_pos (show accI none < 0 by decide)]
            exact take ⟨hq, rfl⟩ M' hle
          | some y =>
            obtain ⟨j2, hj2, hye⟩ := hac y rfl
            obtain ⟨y1, y2⟩ := y
            simp only at hj2 hye
            subst hye
            have hy1 := (List.getElem?_eq_some_iff.1 hj2).1
            have hacc : accI (some (y1, j2.e)) = (y1 : Int) := rfl
            rw [if_neg (by rw [hacc]; omega)]
            simp only [hacc, Int.toNat_natCast, ldE hj, ldE hj2, ob_v, shA_v, shCons_v, shI_v, shNil_v]
            refine ⟨hbd, ⟨by omega, by omega⟩, ?_⟩
            refine rBefore_ok (a := j.e) (b := j2.e) fun M2 l2 => ?_
            rw [shB_v, bs_decide]
            split
            · rename_i hlt2
              exact take ⟨hq, by simp only [befD, decide_eq_true_eq]; exact hlt2⟩ M2 (Mem.le_trans hle l2)
            · rename_i hlt2
              exact skip (fun hh => hlt2 (by have := hh.2; simp only [befD, decide_eq_true_eq] at this; exact this)) M2 (Mem.le_trans hle l2)
        · rename_i hq
          exact skip (fun hh => hq hh.1) M' hle
      · have hii : i = x.l.length := by omega
        rw [hii, List.drop_length] at hfi
        have := hR M' hle
        rw [hfi] at this
        exact this
  exact ⟨_, key (x.l.length + 1) 0 none M (Mem.le_refl _) (by omega) (by omega) rfl (fun y hy => by cases hy)⟩
end
end
end Go.Proofs.Ytedofpnjmnkedaa.HL
set_option linter.unusedVariables false
set_option linter.unusedSimpArgs false
set_option maxRecDepth 100000
namespace Go.Proofs.Ytedofpnjmnkedaa.HL
open Go.RowKit (Below)
open Go.Proofs
section
variable {w0 : World} {F M : Mem} {R : Value → Mem → Prop}
theorem newD0 {P : Asn} (h : Holds w0 F M P) {K : Value → Mem → Prop} (hK : ∀ M' s', Mem.le M M' → Holds w0 F M' (star (SlKA 6 s' []) P) → K s'.v M') : (std PP w0).bsl 51 0 [] K M := by
  refine bsl_e (cells := #[]) Try.underlying51 W.e74 (by decide) (by kernel_rfl) fun b hb hw => ?_
  have l1 : Mem.le M (M.set b (.row (#[] : Array Value).toList 74)) := Mem.le_set _ hb
  exact hK _ ⟨some ⟨b, 0, none⟩, 0, 0⟩ l1 (Holds.newSlk h l1 (SlK.new (n := 0) hb (Own.new hw) rfl))
theorem newD1 {P : Asn} (h : Holds w0 F M P) (q d k s a g : Int) {K : Value → Mem → Prop} (hK : ∀ M' s', Mem.le M M' → Holds w0 F M' (star (SlKA 6 s' [.int .i64 q, .int .i64 d, .int .i64 k, .int .i64 s, .int .i64 a, .int .i64 g]) P) → K s'.v M') :
    (std PP w0).bsl 51 1 [(0, .agg #[.int .i64 q, .int .i64 d, .int .i64 k, .int .i64 s, .int .i64 a, .int .i64 g])] K M := by
  refine bsl_e (n := 1) (cells := #[.int .i64 q, .int .i64 d, .int .i64 k, .int .i64 s, .int .i64 a, .int .i64 g]) Try.underlying51 W.e74 (by decide) (by kernel_rfl) fun b hb hw => ?_
  have l1 : Mem.le M (M.set b (.row (#[.int .i64 q, .int .i64 d, .int .i64 k, .int .i64 s, .int .i64 a, .int .i64 g] : Array Value).toList 74)) := Mem.le_set _ hb
  exact hK _ ⟨some ⟨b, 0, none⟩, 1, 1⟩ l1 (Holds.newSlk h l1 (SlK.new (n := 1) hb (Own.new hw) rfl))
theorem boxJ {b : Nat} {j : Jb} {cs : List Value} {M : Mem} (o : Own w0 M b cs tJb) (hc : cs = jdC j) : (std PP w0).ld tJb ⟨b, 0, none⟩ M = some j.v ∧ (std PP w0).ld 25 ⟨b, 4, none⟩ M = some (.agg #[.int .i64 j.at_, .int .i64 j.gen]) ∧ rd w0 M ⟨b, 2, none⟩ = some (.int .i64 j.key) ∧ rd w0 M ⟨b, 1, none⟩ = some (.int .i64 j.data) := by
  subst hc
  refine ⟨ld_agg (cs := jdC j) W.g74 (fun f v hf => by rw [add_eq, rd_own o, Nat.zero_add]; exact hf), ld_agg (cs := [.int .i64 j.at_, .int .i64 j.gen]) W.g25 (fun f v hf => ?_), rd_own (o := 2) o, rd_own (o := 1) o⟩
  rw [add_eq, rd_own o]
  match f, hf with
  | 0, hf => exact hf
  | 1, hf => exact hf
section
variable {d : Nat} {x : D22} {Q : Asn}
theorem dOut_ok {k : Nat} {j : Jb} (h : Holds w0 F M (star (DispA d x) Q)) (hok : DOk x) (hj : x.l[k]? = some j) (hR : ∀ M', Holds w0 F M' (star (DispA d (x.out k)) Q) → R j.v M') :
    C PP w0 Id.dD_out #[.pointer (some ⟨d, 0, none⟩), .int .i64 (k : Int)] R M := by
  apply dD_out.go
  unfold dD_out.T
  have hL := hok.ll
  have hk := (List.getElem?_eq_some_iff.1 hj).1
  intro b1 hb0 hbw
  have g1 := (Holds.new h hb0 hbw [.int .i64 0, .int .i64 0, .int .i64 0, .int .i64 0, .int .i64 0, .int .i64 0] tJb).rot
  change Holds w0 F (M.set b1 (.row [.int .i64 0, .int .i64 0, .int .i64 0, .int .i64 0, .int .i64 0, .int .i64 0] tJb)) (star (DispA d x) (star (row1 b1 [.int .i64 0, .int .i64 0, .int .i64 0, .int .i64 0, .int .i64 0, .int .i64 0] tJb) Q)) at g1
  generalize M.set b1 _ = M1 at g1 ⊢
  obtain ⟨p, s, hs⟩ := DispA.open_ g1
  obtain ⟨blk, hsa, hns, hin, hrd⟩ := hs.job hj
  have ldj : (std PP w0).ld tJb ⟨blk, k * 6, none⟩ M1 = some j.v := ld_agg (cs := jdC j) W.g74 (fun f v hf => by rw [add_eq]; exact hrd f v hf)
  simp only [nc_v, ld_one W.c51, add_eq, Nat.zero_add, hs.rl, ob_v, shS_sv, hsa, Int.toNat_natCast, ldj]
  refine ⟨⟨by omega, by omega⟩, ?_⟩
  unfold Jb.v
  simp only [shA_v, shCons_v, shI_v, shNil_v]
  intro b2 hb2 hbw2
  have g2 := (Holds.new hs.close hb2 hbw2 [.int .i64 0, .int .i64 0, .int .i64 0, .int .i64 0, .int .i64 0, .int .i64 0] tJb)
  change Holds w0 F (M1.set b2 (.row [.int .i64 0, .int .i64 0, .int .i64 0, .int .i64 0, .int .i64 0, .int .i64 0] tJb)) (star (row1 b2 [.int .i64 0, .int .i64 0, .int .i64 0, .int .i64 0, .int .i64 0, .int .i64 0] tJb) _) at g2
  generalize M1.set b2 _ = M2 at g2 ⊢
  refine st_agg (vs := jdC j) W.g74 g2.own1 (by simp [jdC]) (jdC_one j) ?_
  have g3 := g2.upd1 (cs' := over [.int .i64 0, .int .i64 0, .int .i64 0, .int .i64 0, .int .i64 0, .int .i64 0] 0 (jdC j)) (e' := tJb)
  have hov : over [.int .i64 0, .int .i64 0, .int .i64 0, .int .i64 0, .int .i64 0, .int .i64 0] 0 (jdC j) = jdC j := rfl
  rw [hov] at g3 ⊢
  generalize M2.set b2 _ = M3 at g3 ⊢
  -- the dispatcher ahead of the boxes
  have g4 : Holds w0 F M3 (star (DispA d x) (star (row1 b2 (jdC j) tJb) (star (row1 b1 [.int .i64 0, .int .i64 0, .int .i64 0, .int .i64 0, .int .i64 0, .int .i64 0] tJb) Q))) := g3.rot
  obtain ⟨p, s, hs⟩ := DispA.open_ g4
  have hn := hs.n
  have hw : w64 ((k : Int) + 1) = ((k + 1 : Nat) : Int) := i64_succ (by omega)
  have hcap := Holds.capR jdC_len (by decide) hs.right
  simp only [nc_v, ld_one W.c51, add_eq, Nat.zero_add, hs.rl, ob_v, shS_sv, hw]
  refine ⟨⟨by omega, by omega, by omega⟩, ⟨by omega, by omega, by omega⟩, ?_⟩
  refine newD0 hs fun M4 s38 l4 h4 => ?_
  rw [shS_sv]
  refine ⟨rd_own (o := 4) h4.right.own1, rd_own (o := 4) h4.right.own1, ?_⟩
  have e4 := slkCells h4.right.right
  have n38 : s38.n = 0 := by have := (slkCells h4).2.1; simp at this; omega
  have hx1 : (Value.slice (if s.c = (0 : Int).toNat then s.a else s.a.map (·.add ((0 : Int).toNat * 6))) (k - (0 : Int).toNat) (s.c - (0 : Int).toNat)) = SV.v ⟨if s.c = 0 then s.a else s.a.map (·.add 0), k, s.c⟩ := by
    unfold SV.v
    simp only [Int.toNat_zero, Nat.zero_mul, Nat.sub_zero, Int.toNat_natCast]
  rw [hx1]
  refine appK (news := jdV (x.l.take k)) Try.underlying51 W.e74 h4 (by rw [jdV_len, List.length_take]; simp only; omega) (by rw [jdV_take]; exact cellsHead e4.1) (fun hh => ?_) (jdV_one _) (by decide) (by simp only; omega) fun M5 s41 h5 => ?_
  · simp only at hh ⊢
    obtain ⟨blk5, hsa5, _⟩ := hs.job hj
    rw [hsa5] at hh
    split at hh <;> cases hh
  rw [shS_sv]
  refine ⟨rd_own (o := 4) h5.right.own1, ?_⟩
  have e5 := slkCells h5.right.right
  have n41 : s41.n = k := by
    have := (slkCells h5).2.1
    rw [List.nil_append, jdV_len, List.length_take] at this; omega
  have hx2 : (Value.slice (if s.c = ((k + 1 : Nat) : Int).toNat then s.a else s.a.map (·.add (((k + 1 : Nat) : Int).toNat * 6))) (s.n - ((k + 1 : Nat) : Int).toNat) (s.c - ((k + 1 : Nat) : Int).toNat)) = SV.v ⟨if s.c = k + 1 then s.a else s.a.map (·.add ((k + 1) * 6)), s.n - (k + 1), s.c - (k + 1)⟩ := by
    unfold SV.v
    simp only [Int.toNat_natCast]
  rw [hx2]
  refine appK (news := jdV (x.l.drop (k + 1))) Try.underlying51 W.e74 h5 (by rw [jdV_len, List.length_drop]; simp only; omega) (by rw [jdV_drop]; exact cellsTail e5.1 e5.2.1 (by omega)) (fun hh => ?_) (jdV_one _) (by decide) (by simp only; omega) fun M6 s44 h6 => ?_
  · simp only at hh ⊢
    obtain ⟨blk5, hsa5, _⟩ := hs.job hj
    rw [hsa5] at hh
    split at hh <;> cases hh
  rw [shS_sv]
  -- the row gets it
  have h7 := h6.rot
  refine st_one W.c51 h7.own1 (by simp) rfl rfl ?_
  have h8 := h7.upd1 (cs' := [.int .i64 x.most, .int .i64 x.now, .int .i64 x.next, .pointer (some ⟨p, 0, none⟩), SV.v s44]) (e' := tD)
  rw [show ([.int .i64 x.most, .int .i64 x.now, .int .i64 x.next, .pointer (some ⟨p, 0, none⟩), SV.v s] : List Value).set 4 (SV.v s44) = [.int .i64 x.most, .int .i64 x.now, .int .i64 x.next, .pointer (some ⟨p, 0, none⟩), SV.v s44] from rfl]
  generalize M6.set d _ = M7 at h8 ⊢
  have her : [] ++ jdV (x.l.take k) ++ jdV (x.l.drop (k + 1)) = jdV (x.l.eraseIdx k) := by
    rw [List.nil_append, List.eraseIdx_eq_take_drop_succ]
    simp [List.flatMap_append]
  rw [her] at h8
  have h9 : DH w0 F M7 d { x with l := x.l.eraseIdx k } p s44 (star (row1 b2 (jdC j) tJb) (star (row1 b1 [.int .i64 0, .int .i64 0, .int .i64 0, .int .i64 0, .int .i64 0, .int .i64 0] tJb) Q)) := by
    obtain ⟨F1, k1, _, k2⟩ := h8.last
    obtain ⟨F2, k3, _, k4⟩ := k1.last
    exact k2 _ _ (k4 _ _ k3.right)
  have ob2 := h9.right.right.right.own1
  simp only [nc_v, ld_one W.c50, add_eq, Nat.zero_add, h9.rp, (boxJ ob2 rfl).2.1, ob_v, shP_v, shA_v, shCons_v, shI_v, shNil_v]
  obtain ⟨F1, hp, back⟩ := h9.pool
  have hlk : x.pool.look j.at_ j.gen = 0 := hok.lk j (List.mem_of_getElem? hj)
  refine rGive_ok (l := x.pool) hp hok.pl hok.bl (fun hh => absurd hlk hh) fun n hn _ M8 h8 => ?_
  have h10 := back M8 _ _ h8
  simp only [shT_v, shCons_v, shI_v, shNil_v]
  have ob3 := h10.right.right.right.own1
  rw [(boxJ ob3 rfl).1]
  unfold Jb.v
  simp only [ob_v, shA_v, shCons_v, shI_v, shNil_v]
  have hout : x.out k = { x with l := x.l.eraseIdx k, pool := x.pool.give n } := by
    unfold D22.out
    rw [hj]
    simp only
    rw [show j.at_.toNat = n from by omega]
  have h11 : Holds w0 F M8 (star (row1 b1 [.int .i64 0, .int .i64 0, .int .i64 0, .int .i64 0, .int .i64 0, .int .i64 0] tJb) (star (DispA d (x.out k)) Q)) := by
    rw [hout]
    have := DH.close (x := { x with l := x.l.eraseIdx k, pool := x.pool.give n }) h10
    obtain ⟨F1, k1, _, k2⟩ := this.last
    exact (k2 _ _ k1.right).rot
  refine st_agg (vs := jdC j) W.g74 h11.own1 (by simp [jdC]) (jdC_one j) ?_
  have h12 := h11.upd1 (cs' := over [.int .i64 0, .int .i64 0, .int .i64 0, .int .i64 0, .int .i64 0, .int .i64 0] 0 (jdC j)) (e' := tJb)
  rw [hov] at h12 ⊢
  generalize M8.set b1 _ = M9 at h12 ⊢
  rw [rdv_ptr, (boxJ h12.own1 rfl).1, ob_v]
  exact hR M9 h12.right
end
end
end Go.Proofs.Ytedofpnjmnkedaa.HL
set_option linter.unusedVariables false
set_option linter.unusedSimpArgs false
set_option maxRecDepth 100000
namespace Go.Proofs.Ytedofpnjmnkedaa.HL
open Go.RowKit (Below)
open Go.Proofs
section
variable {x : D22} {c : Cmd}
theorem do22_bad (h : badQ c) : do22 x c = (x, { why := 1 }) := by unfold badQ at h; unfold do22; rw [if_pos h]
theorem do22_1 (h : ¬ badQ c) (k : c.kind = 1) : do22 x c = match x.pool.at_ with
    | none => (x, { why := 13 })
    | some a => ({ x with pool := x.pool.take a 0, l := x.l ++ [⟨c.queue, c.data, c.time, x.next, (a : Int), x.pool.gen a⟩], next := x.next + 1 }, { at_ := (a : Int), gen := x.pool.gen a, time := c.time, data := c.data }) := by
  unfold badQ at h; unfold do22; rw [if_neg h, if_pos k] <;> rfl
theorem do22_23 (k : c.kind = 2 ∨ c.kind = 3) : do22 x c = if x.pool.look c.at_ c.gen ≠ 0 then (x, { why := x.pool.look c.at_ c.gen })
    else match atD x.l c.at_ c.gen with
      | none => (x, {})
      | some k => match x.l[k]? with
        | none => (x, {})
        | some j =>
          if c.kind = 3 then (x.out k, { time := j.key, data := j.data })
          else if j.key < c.time then (x, { why := 26 })
          else ({ x with l := x.l.set k { j with key := c.time } }, { time := c.time, data := j.data }) := by
  unfold do22; rw [if_neg (fun h => by omega), if_neg (by omega), if_pos k] <;> rfl
theorem do22_4 (k : c.kind = 4) : do22 x c = if c.time < 0 then (x, { why := 1 }) else ({ x with now := addc x.now c.time }, { time := addc x.now c.time }) := by
  unfold do22; rw [if_neg (fun h => by omega), if_neg (by omega), if_neg (by omega), if_pos k]
theorem do22_5 (h : ¬ badQ c) (k : c.kind = 5) : do22 x c = match firstD x.l c.queue with
    | none => (x, { why := 28 })
    | some y => if x.now < y.2.1 then (x, { why := 28 }) else
      match x.l[y.1]? with
      | none => (x, {})
      | some j => (x.out y.1, { at_ := j.at_, gen := j.gen, time := j.key, data := j.data }) := by
  unfold badQ at h; unfold do22; rw [if_neg h, if_neg (by omega), if_neg (by omega), if_neg (by omega), if_pos k] <;> rfl
theorem do22_6 (h : ¬ badQ c) (k : c.kind = 6) : do22 x c = if c.queue = 0 then (x, { why := 25 })
    else ({ x with l := x.l.map fun j => if j.queue = 1 then { j with queue := 0 } else j }, { n := (countD 1 x.l : Int) }) := by
  unfold badQ at h; unfold do22; rw [if_neg h, if_neg (by omega), if_neg (by omega), if_neg (by omega), if_neg (by omega), if_pos k]
theorem do22_7 (h : ¬ badQ c) (k : c.kind = 7) : do22 x c = (x, { n := (countD c.queue x.l : Int) }) := by
  unfold badQ at h; unfold do22; rw [if_neg h, if_neg (by omega), if_neg (by omega), if_neg (by omega), if_neg (by omega), if_neg (by omega), if_pos k]
theorem do22_8 (k : c.kind < 1 ∨ 7 < c.kind) : do22 x c = (x, { why := 12 }) := by
  unfold do22; rw [if_neg (fun h => by omega), if_neg (by omega), if_neg (by omega), if_neg (by omega), if_neg (by omega), if_neg (by omega), if_neg (by omega)]
end
section
variable {w0 : World} {F M : Mem} {R : Value → Mem → Prop}
theorem resRep {b : Nat} {cs : List Value} {P : Asn} {a0 a1 a2 a3 a4 a5 : Int} (h : Holds w0 F M (star (row1 b cs tRep) P)) (hcs : cs.length = 6) {K : Value → Mem → Prop} (hK : ∀ M', Holds w0 F M' P → K (.agg #[.int .i64 a0, .int .i64 a1, .int .i64 a2, .int .i64 a3, .int .i64 a4, .int .i64 a5]) M') :
    (std PP w0).st tRep ⟨b, 0, none⟩ (.agg #[.int .i64 a0, .int .i64 a1, .int .i64 a2, .int .i64 a3, .int .i64 a4, .int .i64 a5]) (fun M14 => ob ((std PP w0).rdv tRep (.pointer (some ⟨b, 0, none⟩)) M14) fun v15 => K v15 M14) M := by
  refine st_agg (vs := [.int .i64 a0, .int .i64 a1, .int .i64 a2, .int .i64 a3, .int .i64 a4, .int .i64 a5]) W.g32 h.own1 (by simp [hcs]) (by intro v hv; simp only [List.mem_cons, List.not_mem_nil, or_false] at hv; rcases hv with rfl | rfl | rfl | rfl | rfl | rfl <;> rfl) ?_
  have hP2 := h.upd1 (cs' := over cs 0 [.int .i64 a0, .int .i64 a1, .int .i64 a2, .int .i64 a3, .int .i64 a4, .int .i64 a5]) (e' := tRep)
  have o2 := hP2.own1
  have ho : over cs 0 [.int .i64 a0, .int .i64 a1, .int .i64 a2, .int .i64 a3, .int .i64 a4, .int .i64 a5] = [.int .i64 a0, .int .i64 a1, .int .i64 a2, .int .i64 a3, .int .i64 a4, .int .i64 a5] := by
    match cs, hcs with
    | [_, _, _, _, _, _], _ => rfl
  rw [ho] at o2
  rw [rdv_ptr, ld_agg (cs := [.int .i64 a0, .int .i64 a1, .int .i64 a2, .int .i64 a3, .int .i64 a4, .int .i64 a5]) W.g32 (fun j v hj => by rw [ho, add_eq, rd_own o2, Nat.zero_add]; exact hj), ob_v]
  exact hK _ hP2.right
section
variable {d : Nat} {x : D22} {Q : Asn}
theorem DH.set {p : Nat} {s : SV} (h : DH w0 F M d x p s Q) {t : TypeId} (ht : cell1 PP t = true) {i : Nat} {j j' : Jb} (hj : x.l[i]? = some j) {f : Nat} (hf : f < 6) {v : Value} (hv : onecell v = true) (hcv : v.cells = #[v]) (he : (jdC j).set f v = jdC j')
    {blk : Nat} (ha : s.a = some ⟨blk, 0, none⟩) {K : Mem → Prop} (hK : ∀ M', DH w0 F M' d { x with l := x.l.set i j' } p s Q → K M') : (std PP w0).st t ⟨blk, i * 6 + f, none⟩ v (fun M' => K M') M := by
  refine Holds.stR (P := PP) (c := jdC) (l := x.l) jdC_len (by decide) ht h.rot hj hf hv hcv he ha fun M' h' => hK M' h'.rot
abbrev zR : List Value := [.int .i64 0, .int .i64 0, .int .i64 0, .int .i64 0, .int .i64 0, .int .i64 0]
theorem dQueue_ok {c : Cmd} (h : Holds w0 F M (star (DispA d x) Q)) (hok : DOk x) (hq : c.queue = 0 ∨ c.queue = 1) (hk : c.kind = 1 ∨ c.kind = 5 ∨ c.kind = 6 ∨ c.kind = 7)
    (hR : ∀ M', Holds w0 F M' (star (DispA d (do22 x c).1) Q) → R (do22 x c).2.v M') :
    C PP w0 Id.dD_queue #[.pointer (some ⟨d, 0, none⟩), c.v] R M := by
  apply dD_queue.go
  intro pts H
  unfold dD_queue.T
  have hL := hok.ll
  have hbq : ¬ badQ c := by unfold badQ; omega
  intro b1 hb0 hbw
  have g1 := (Holds.new h hb0 hbw [.int .i64 c.kind, .int .i64 c.queue, .int .i64 c.at_, .int .i64 c.gen, .int .i64 c.time, .int .i64 c.data] tCmd).rot
  change Holds w0 F (M.set b1 (.row [.int .i64 c.kind, .int .i64 c.queue, .int .i64 c.at_, .int .i64 c.gen, .int .i64 c.time, .int .i64 c.data] tCmd)) (star (DispA d x) (star (row1 b1 [.int .i64 c.kind, .int .i64 c.queue, .int .i64 c.at_, .int .i64 c.gen, .int .i64 c.time, .int .i64 c.data] tCmd) Q)) at g1
  generalize M.set b1 _ = M1 at g1 ⊢
  intro b3 hb3 hbw3
  have g3 := (Holds.new g1 hb3 hbw3 [.int .i64 0, .int .i64 0, .int .i64 0, .int .i64 0, .int .i64 0, .int .i64 0] tRep).rot
  change Holds w0 F (M1.set b3 (.row [.int .i64 0, .int .i64 0, .int .i64 0, .int .i64 0, .int .i64 0, .int .i64 0] tRep)) (star (DispA d x) (star (row1 b3 zR tRep) (star (row1 b1 [.int .i64 c.kind, .int .i64 c.queue, .int .i64 c.at_, .int .i64 c.gen, .int .i64 c.time, .int .i64 c.data] tCmd) Q))) at g3
  generalize M1.set b3 _ = M2 at g3 ⊢
  have LC : ∀ {M' : Mem}, Own w0 M' b1 [.int .i64 c.kind, .int .i64 c.queue, .int .i64 c.at_, .int .i64 c.gen, .int .i64 c.time, .int .i64 c.data] tCmd → rd w0 M' ⟨b1, 0, none⟩ = some (.int .i64 c.kind) ∧ rd w0 M' ⟨b1, 1, none⟩ = some (.int .i64 c.queue) ∧ rd w0 M' ⟨b1, 4, none⟩ = some (.int .i64 c.time) ∧ rd w0 M' ⟨b1, 5, none⟩ = some (.int .i64 c.data) := fun o => ⟨rd_own (o := 0) o, rd_own (o := 1) o, rd_own (o := 4) o, rd_own (o := 5) o⟩
  have fin : ∀ (M4 : Mem) (x' : D22) (r : Rep), do22 x c = (x', r) → Holds w0 F M4 (star (DispA d x') (star (row1 b3 zR tRep) (star (row1 b1 [.int .i64 c.kind, .int .i64 c.queue, .int .i64 c.at_, .int .i64 c.gen, .int .i64 c.time, .int .i64 c.data] tCmd) Q))) →
      (std PP w0).st tRep ⟨b3, 0, none⟩ (.agg #[.int .i64 r.why, .int .i64 r.at_, .int .i64 r.gen, .int .i64 r.time, .int .i64 r.data, .int .i64 r.n]) (fun M14 => ob ((std PP w0).rdv tRep (.pointer (some ⟨b3, 0, none⟩)) M14) fun v15 => R v15 M14) M4 := by
    intro M4 x' r hd g
    refine resRep g.rot rfl fun M5 g5 => ?_
    rw [hd] at hR
    refine hR M5 ?_
    obtain ⟨F', k1, _, k2⟩ := g5.last
    exact k2 _ _ k1.right
  have o1 := g3.right.right.own1
  simp only [ld_one W.c3, (LC o1).1, ob_v, shI_v]
  rw [bs_beq]
  split
  · -- Schedule
    rename_i k
    have hd := do22_1 (x := x) hbq k
    obtain ⟨p, s, hs⟩ := DispA.open_ g3
    simp only [nc_v, ld_one W.c50, add_eq, Nat.zero_add, hs.rp, ob_v, shP_v]
    obtain ⟨F1, hp, back⟩ := hs.pool
    refine rTake_ok hp hok.pl hok.gl hok.bl hok.gv (fun hn M3 h3 => ?_) fun a ha M3 h3 => ?_
    · rw [hn] at hd
      have h4 := (back M3 _ _ h3).close
      simp only [shT_v, shCons_v, shA_v, shI_v, shB_v, shNil_v]
      intro b5 hb5 hbw5
      have g5 := Holds.new h4 hb5 hbw5 [.int .i64 0, .int .i64 0] 25
      generalize M3.set b5 _ = M4 at g5 ⊢
      refine st_agg (vs := [.int .i64 0, .int .i64 0]) W.g25 g5.own1 (by simp) (by intro v hv; simp only [List.mem_cons, List.not_mem_nil, or_false] at hv; rcases hv with rfl | rfl <;> rfl) ?_
      have g6 := g5.upd1 (cs' := over [.int .i64 0, .int .i64 0] 0 [.int .i64 0, .int .i64 0]) (e' := 25)
      rw [Bool.not_false, bs_true, bR0]
      simp only [ob_v, shA_v, shCons_v, shI_v, shNil_v]
      exact fin _ x { why := 13 } hd g6.right
    · rw [ha] at hd
      simp only at hd
      have h4 := back M3 _ _ h3
      simp only [shT_v, shCons_v, shA_v, shI_v, shB_v, shNil_v]
      intro b5 hb5 hbw5
      have g5 := Holds.new h4.close hb5 hbw5 [.int .i64 0, .int .i64 0] 25
      generalize M3.set b5 _ = M4 at g5 ⊢
      generalize hgg : x.pool.gen a = g at hd ⊢
      refine st_agg (vs := [.int .i64 (a : Int), .int .i64 g]) W.g25 g5.own1 (by simp) (by intro v hv; simp only [List.mem_cons, List.not_mem_nil, or_false] at hv; rcases hv with rfl | rfl <;> rfl) ?_
      have g6 := g5.upd1 (cs' := over [.int .i64 0, .int .i64 0] 0 [.int .i64 (a : Int), .int .i64 g]) (e' := 25)
      have hov : over [.int .i64 0, .int .i64 0] 0 [.int .i64 (a : Int), .int .i64 g] = [Value.int .i64 (a : Int), .int .i64 g] := rfl
      rw [hov] at g6 ⊢
      generalize M4.set b5 _ = M5 at g6 ⊢
      rw [Bool.not_true, bs_false]
      obtain ⟨p2, s2, hs2⟩ := DispA.open_ g6.rot
      have LR : ∀ {M' : Mem}, Own w0 M' b5 [.int .i64 (a : Int), .int .i64 g] 25 → (std PP w0).ld 25 ⟨b5, 0, none⟩ M' = some (.agg #[.int .i64 (a : Int), .int .i64 g]) := fun o => ld_agg (cs := [.int .i64 (a : Int), .int .i64 g]) W.g25 (fun j v hj => by rw [add_eq, rd_own o, Nat.zero_add]; exact hj)
      have hns := hs2.n
      simp only at hns
      have q5 := hs2.right.right.right.own1
      have q1 := hs2.right.right.right.right.right.own1
      have hbJ : (std PP w0).bld tJb [(0, .int .i64 c.queue), (1, .int .i64 c.data), (2, .agg #[.int .i64 c.time, .int .i64 x.next]), (3, .agg #[.int .i64 (a : Int), .int .i64 g])] = some (.agg #[.int .i64 c.queue, .int .i64 c.data, .int .i64 c.time, .int .i64 x.next, .int .i64 (a : Int), .int .i64 g]) := by kernel_rfl
      have rx2 : rd w0 M5 ⟨d, 2, none⟩ = some (.int .i64 x.next) := hs2.rx
      simp only [nc_v, ld_one W.c51, ld_one W.c3, ld_one W.c2, add_eq, Nat.zero_add, hs2.rl, rx2, (LC q1).2.1, (LC q1).2.2.1, (LC q1).2.2.2, LR q5, ob_v, shS_sv, shA_v, shCons_v, shI_v, shNil_v, bE01, hbJ]
      have one : ∀ v ∈ [Value.int .i64 c.queue, .int .i64 c.data, .int .i64 c.time, .int .i64 x.next, .int .i64 (a : Int), .int .i64 g], onecell v = true := fun v hv => by
        simp only [List.mem_cons, List.not_mem_nil, or_false] at hv
        rcases hv with rfl | rfl | rfl | rfl | rfl | rfl <;> rfl
      have put : ∀ (M9 : Mem) (s' : SV) (X : Asn), Holds w0 F M9 (star (SlKA 6 s' ([] ++ jdV x.l ++ [.int .i64 c.queue, .int .i64 c.data, .int .i64 c.time, .int .i64 x.next, .int .i64 (a : Int), .int .i64 g])) (star X (star (row1 d [.int .i64 x.most, .int .i64 x.now, .int .i64 x.next, .pointer (some ⟨p2, 0, none⟩), SV.v s2] tD) (star (SlKA 6 s2 (jdV x.l)) (star (PoolA p2 (x.pool.take a 0)) (star (row1 b5 [.int .i64 (a : Int), .int .i64 g] 25) (star (row1 b3 zR tRep) (star (row1 b1 [.int .i64 c.kind, .int .i64 c.queue, .int .i64 c.at_, .int .i64 c.gen, .int .i64 c.time, .int .i64 c.data] tCmd) Q)))))))) →
          (std PP w0).st 51 ⟨d, 4, none⟩ (SV.v s') (fun M111 => ob (rd w0 M111 ⟨d, 2, none⟩) fun v113 => shI .i64 v113 fun n114 => (std PP w0).st 2 ⟨d, 2, none⟩ (.int .i64 (w64 (n114 + 1))) (fun M116 => ob ((std PP w0).ld 25 ⟨b5, 0, none⟩ M116) fun v117 => shA v117 fun l118 => shCons l118 fun u119 r120 => shI .i64 u119 fun n121 => shCons r120 fun u122 r123 => shI .i64 u122 fun n124 => shNil r123
            (ob (rd w0 M116 ⟨b1, 4, none⟩) fun v125 => shI .i64 v125 fun n126 => ob (rd w0 M116 ⟨b1, 5, none⟩) fun v127 => shI .i64 v127 fun n128 => ob ((std PP w0).bld tRep [(1, .agg #[.int .i64 n121, .int .i64 n124]), (2, .int .i64 n126), (3, .int .i64 n128)]) fun v129 => shA v129 fun l130 => shCons l130 fun u131 r132 => shI .i64 u131 fun n133 => shCons r132 fun u134 r135 => shI .i64 u134 fun n136 => shCons r135 fun u137 r138 => shI .i64 u137 fun n139 => shCons r138 fun u140 r141 => shI .i64 u140 fun n142 => shCons r141 fun u143 r144 => shI .i64 u143 fun n145 => shCons r144 fun u146 r147 => shI .i64 u146 fun n148 => shNil r147
              ((std PP w0).st tRep ⟨b3, 0, none⟩ (.agg #[.int .i64 n133, .int .i64 n136, .int .i64 n139, .int .i64 n142, .int .i64 n145, .int .i64 n148]) (fun M149 => ob ((std PP w0).rdv tRep (.pointer (some ⟨b3, 0, none⟩)) M149) fun v150 => R v150 M149) M116))) M111) M9 := by
        intro M9 s' X h9
        have h10 := h9.mdr3
        refine st_one W.c51 h10.own1 (by simp) rfl rfl ?_
        have h11 := h10.upd1 (cs' := [.int .i64 x.most, .int .i64 x.now, .int .i64 x.next, .pointer (some ⟨p2, 0, none⟩), SV.v s']) (e' := tD)
        rw [show ([.int .i64 x.most, .int .i64 x.now, .int .i64 x.next, .pointer (some ⟨p2, 0, none⟩), SV.v s2] : List Value).set 4 (SV.v s') = [.int .i64 x.most, .int .i64 x.now, .int .i64 x.next, .pointer (some ⟨p2, 0, none⟩), SV.v s'] from rfl]
        generalize M9.set d _ = M10 at h11 ⊢
        have rxx : rd w0 M10 ⟨d, 2, none⟩ = some (.int .i64 x.next) := rd_own (o := 2) h11.own1
        rw [rxx]
        simp only [ob_v, shI_v]
        have hnx := hok.nx
        rw [w64_in (show -9223372036854775808 ≤ x.next + 1 ∧ x.next + 1 ≤ 9223372036854775807 by omega)]
        refine st_one W.c2 h11.own1 (by simp) rfl rfl ?_
        have h12 := h11.upd1 (cs' := [.int .i64 x.most, .int .i64 x.now, .int .i64 (x.next + 1), .pointer (some ⟨p2, 0, none⟩), SV.v s']) (e' := tD)
        rw [show ([.int .i64 x.most, .int .i64 x.now, .int .i64 x.next, .pointer (some ⟨p2, 0, none⟩), SV.v s'] : List Value).set 2 (.int .i64 (x.next + 1)) = [.int .i64 x.most, .int .i64 x.now, .int .i64 (x.next + 1), .pointer (some ⟨p2, 0, none⟩), SV.v s'] from rfl]
        generalize M10.set d _ = M11 at h12 ⊢
        have t5 := h12.right.right.right.right.right.own1
        have t1 := h12.right.right.right.right.right.right.right.own1
        simp only [LR t5, (LC t1).2.2.1, (LC t1).2.2.2, ob_v, shA_v, shCons_v, shI_v, shNil_v, bR123]
        refine fin M11 _ _ hd ?_
        refine DH.close (p := p2) (s := s') ?_
        show Holds w0 F _ (star _ (star (SlKA 6 s' (jdV (x.l ++ [⟨c.queue, c.data, c.time, x.next, (a : Int), g⟩]))) (star (PoolA p2 (x.pool.take a 0)) _)))
        rw [List.nil_append] at h12
        rw [show jdV (x.l ++ [⟨c.queue, c.data, c.time, x.next, (a : Int), g⟩]) = jdV x.l ++ [.int .i64 c.queue, .int .i64 c.data, .int .i64 c.time, .int .i64 x.next, .int .i64 (a : Int), .int .i64 g] from by simp [List.flatMap_append, jdC]]
        obtain ⟨F1, k1, _, k2⟩ := h12.last
        refine k2 _ _ ?_
        obtain ⟨F2, k3, _, k4⟩ := k1.last
        refine k4 _ _ ?_
        obtain ⟨F3, k5, _, k6⟩ := (k3.right.right).last
        exact k6 _ _ k5.right
      have hln : s2.n ≤ 10000 := by omega
      refine ⟨?_, ?_⟩
      · refine newD0 hs2 fun M6 s363 l6 h6 => ?_
        rw [shS_sv]
        have r5 := h6.right.right.right.right.own1
        have r1 := h6.right.right.right.right.right.right.own1
        refine ⟨rd_own (o := 4) h6.right.own1, (LC r1).2.1, (LC r1).2.2.2, (LC r1).2.2.1, rd_own (o := 2) h6.right.own1, LR r5, ?_, ?_⟩
        · have e6 := slkCells h6.right.right
          have n363 : s363.n = 0 := by have := (slkCells h6).2.1; simp at this; omega
          refine appK Try.underlying51 W.e74 h6 e6.2.1 e6.1 e6.2.2 (jdV_one _) (by decide) (by omega) fun M7 s366 h7 => ?_
          rw [shS_sv]
          have t5 := h7.right.right.right.right.own1
          have t1 := h7.right.right.right.right.right.right.own1
          refine ⟨(LC t1).2.1, (LC t1).2.2.2, (LC t1).2.2.1, rd_own (o := 2) h7.right.own1, LR t5, ?_⟩
          refine newD1 h7 _ _ _ _ _ _ fun M8 s369 l8 h8 => ?_
          rw [shS_sv]
          have e8 := slkCells h8
          have n366 : s366.n = s2.n := by
            have := (slkCells h8.right).2.1
            rw [List.nil_append, jdV_len] at this
            simp only at this; omega
          refine appK Try.underlying51 W.e74 h8.rot e8.2.1 e8.1 e8.2.2 one (by decide) (by have := e8.2.1; simp at this; omega) fun M9 s372 h9 => ?_
          rw [shS_sv]
          exact put M9 s372 _ h9
        · refine newD1 h6 _ _ _ _ _ _ fun M7 s377 l7 h7 => ?_
          rw [shS_sv]
          refine ⟨rd_own (o := 4) h7.right.right.own1, ?_⟩
          have e6 := slkCells h7.right.right.right
          have n363 : s363.n = 0 := by have := (slkCells h6).2.1; simp at this; omega
          refine appK Try.underlying51 W.e74 h7.rot e6.2.1 e6.1 e6.2.2 (jdV_one _) (by decide) (by omega) fun M8 s380 h8 => ?_
          rw [shS_sv]
          have e8 := slkCells h8.right
          have n380 : s380.n = s2.n := by
            have := (slkCells h8).2.1
            rw [List.nil_append, jdV_len] at this
            simp only at this; omega
          refine appK Try.underlying51 W.e74 h8 e8.2.1 e8.1 e8.2.2 one (by decide) (by have := e8.2.1; simp at this; omega) fun M9 s383 h9 => ?_
          rw [shS_sv]
          exact put M9 s383 _ h9
      · refine newD1 hs2 _ _ _ _ _ _ fun M6 s388 l6 h6 => ?_
        rw [shS_sv]
        refine ⟨rd_own (o := 4) h6.right.own1, ?_⟩
        refine newD0 h6 fun M7 s391 l7 h7 => ?_
        rw [shS_sv]
        refine ⟨rd_own (o := 4) h7.right.right.own1, ?_⟩
        have e6 := slkCells h7.right.right.right
        have n391 : s391.n = 0 := by have := (slkCells h7).2.1; simp at this; omega
        refine appK Try.underlying51 W.e74 h7 e6.2.1 e6.1 e6.2.2 (jdV_one _) (by decide) (by omega) fun M8 s394 h8 => ?_
        rw [shS_sv]
        have e8 := slkCells h8.right
        have n394 : s394.n = s2.n := by
          have := (slkCells h8).2.1
          rw [List.nil_append, jdV_len] at this
          simp only at this; omega
        refine appK Try.underlying51 W.e74 h8 e8.2.1 e8.1 e8.2.2 one (by decide) (by have := e8.2.1; simp at this; omega) fun M9 s397 h9 => ?_
        rw [shS_sv]
        exact put M9 s397 _ h9
  · rename_i k1
    rw [bs_beq]
    split
    · -- Fire
      rename_i k
      have hd := do22_5 (x := x) hbq k
      simp only [ld_one W.c3, add_eq, Nat.zero_add, (LC o1).2.1, ob_v, shI_v]
      refine dFirst_ok g3 hL fun M3 l3 => ?_
      have g4 := g3.le l3
      rw [shI_v, bs_decide]
      cases hf : firstD x.l c.queue with
      | none =>
        rw [hf] at hd
        rw [if_pos (show accI none < 0 by decide), bR0]
        simp only [ob_v, shA_v, shCons_v, shI_v, shNil_v]
        exact fin M3 x { why := 28 } hd g4
      | some y =>
        obtain ⟨j, hj, hjq, hye, _⟩ := firstD_some hf
        obtain ⟨y1, y2⟩ := y
        simp only at hj hye
        subst hye
        rw [hf] at hd
        simp only [hj] at hd
        have hacc : accI (some (y1, j.e)) = (y1 : Int) := rfl
        rw [hacc, if_neg (by omega)]
        obtain ⟨p, s, hs⟩ := DispA.open_ g4
        obtain ⟨blk, hsa, hns, hin, hrd⟩ := hs.job hj
        have ek : rd w0 M3 ⟨blk, y1 * 6 + 2, none⟩ = some (.int .i64 j.key) := hrd 2 _ rfl
        simp only [nc_v, ld_one W.c51, ld_one W.c2, add_eq, Nat.zero_add, hs.rl, hs.rn, ob_v, shS_sv, hsa, Int.toNat_natCast, ek, shI_v]
        refine ⟨⟨by omega, by omega⟩, ?_⟩
        rw [bs_decide]
        split
        · rename_i hdue
          rw [if_pos (show x.now < j.e.1 from hdue)] at hd
          rw [bR0]
          simp only [ob_v, shA_v, shCons_v, shI_v, shNil_v]
          exact fin M3 x { why := 28 } hd g4
        · rename_i hdue
          rw [if_neg (show ¬ x.now < j.e.1 from hdue)] at hd
          rw [H.J1]
          unfold dD_queue.J1.T
          refine dOut_ok g4 hok hj fun M4 h4 => ?_
          unfold Jb.v
          simp only [shA_v, shCons_v, shI_v, shNil_v]
          intro b5 hb5 hbw5
          have g5 := Holds.new h4 hb5 hbw5 [.int .i64 0, .int .i64 0, .int .i64 0, .int .i64 0, .int .i64 0, .int .i64 0] tJb
          generalize M4.set b5 _ = M5 at g5 ⊢
          refine st_agg (vs := jdC j) W.g74 g5.own1 (by simp [jdC]) (jdC_one j) ?_
          have g6 := g5.upd1 (cs' := over [.int .i64 0, .int .i64 0, .int .i64 0, .int .i64 0, .int .i64 0, .int .i64 0] 0 (jdC j)) (e' := tJb)
          have hov : over [.int .i64 0, .int .i64 0, .int .i64 0, .int .i64 0, .int .i64 0, .int .i64 0] 0 (jdC j) = jdC j := rfl
          rw [hov] at g6 ⊢
          generalize M5.set b5 _ = M6 at g6 ⊢
          have hb6 := boxJ g6.own1 rfl
          simp only [ld_one W.c3, ld_one W.c2, add_eq, Nat.zero_add, hb6.2.1, hb6.2.2.1, hb6.2.2.2, ob_v, shA_v, shCons_v, shI_v, shNil_v, bR123]
          exact fin M6 _ _ hd g6.right
    · rename_i k5
      rw [bs_beq]
      split
      · -- Merge
        rename_i k
        have hd := do22_6 (x := x) hbq k
        simp only [ld_one W.c3, add_eq, Nat.zero_add, (LC o1).2.1, ob_v, shI_v]
        rw [bs_beq]
        split
        · rename_i hz
          rw [if_pos hz] at hd
          rw [bR0]
          simp only [ob_v, shA_v, shCons_v, shI_v, shNil_v]
          exact fin M2 x { why := 25 } hd g3
        · rename_i hz
          rw [if_neg hz] at hd
          have key : ∀ (n i : Nat) (l' : List Jb) (M' : Mem), i ≤ x.l.length → x.l.length < i + n → l'.length = x.l.length → (∀ a, a < i → l'[a]? = (x.l[a]?).map fun j => if j.queue = 1 then { j with queue := 0 } else j) → (∀ a, i ≤ a → l'[a]? = x.l[a]?) →
              Holds w0 F M' (star (DispA d { x with l := l' }) (star (row1 b3 zR tRep) (star (row1 b1 [.int .i64 c.kind, .int .i64 c.queue, .int .i64 c.at_, .int .i64 c.gen, .int .i64 c.time, .int .i64 c.data] tCmd) Q))) →
              dD_queue.L2 pts n (some ⟨d, 0, none⟩) ⟨b3, 0, none⟩ ((countD 1 (x.l.take i) : Nat) : Int) (i : Int) M' := by
            intro n
            induction n with
            | zero => intro i l' M' e1 e2; omega
            | succ n ih =>
              intro i l' M' e1 e2 e3 e4 e5 g
              rw [H.L2]
              unfold dD_queue.L2.T
              obtain ⟨p, s, hs⟩ := DispA.open_ g
              have ns := hs.n
              simp only at ns
              simp only [nc_v, ld_one W.c51, ld_one W.c3, add_eq, Nat.zero_add, hs.rl, ob_v, shS_sv]
              rw [bs_decide]
              split
              · have hlt : i < x.l.length := by omega
                have hj := List.getElem?_eq_getElem hlt
                have htk : x.l.take (i + 1) = x.l.take i ++ [x.l[i]] := by rw [List.take_add_one, hj]; rfl
                generalize x.l[i] = j at hj htk
                have hj' : l'[i]? = some j := by rw [e5 i (Nat.le_refl _), hj]
                obtain ⟨blk, hsa, _, hin, hrd⟩ := hs.job (x := { x with l := l' }) hj'
                have eq : rd w0 M' ⟨blk, i * 6, none⟩ = some (.int .i64 j.queue) := hrd 0 _ rfl
                simp only [hsa, nc_v, Int.toNat_natCast, add_eq, Nat.zero_add, eq, ob_v, shI_v]
                have hbd : 0 ≤ (i : Int) ∧ (i : Int) < ((s.n : Nat) : Int) := ⟨by omega, by omega⟩
                refine ⟨hbd, ?_⟩
                have hle : countD 1 (x.l.take i) ≤ x.l.length := Nat.le_trans List.countP_le_length (by rw [List.length_take]; omega)
                have hct : countD 1 (x.l.take (i + 1)) = countD 1 (x.l.take i) + (if j.queue = 1 then 1 else 0) := by
                  rw [htk]; unfold countD
                  rw [List.countP_append, List.countP_singleton]
                  simp
                rw [bs_beq, i64_succ (i := i) (by omega), i64_succ (by omega)]
                split
                · rename_i hq1
                  rw [if_pos hq1] at hct
                  refine ⟨hbd, ?_⟩
                  have := DH.set (x := { x with l := l' }) hs W.c3 (i := i) (j' := { j with queue := 0 }) hj' (f := 0) (by decide) (v := .int .i64 0) rfl rfl rfl hsa (K := fun M435 => dD_queue.L2 pts n (some ⟨d, 0, none⟩) ⟨b3, 0, none⟩ ((countD 1 (x.l.take i) + 1 : Nat) : Int) ((i + 1 : Nat) : Int) M435) fun M4 h4 => by
                    rw [← hct]
                    refine ih (i + 1) (l'.set i { j with queue := 0 }) M4 (by omega) (by omega) (by rw [List.length_set, e3]) (fun a ha => ?_) (fun a ha => ?_) (DH.close h4)
                    · by_cases hai : a = i
                      · subst hai
                        rw [List.getElem?_set_self (by omega), hj]
                        simp only [Option.map_some, if_pos hq1]
                      · rw [List.getElem?_set_ne (Ne.symm hai)]; exact e4 a (by omega)
                    · rw [List.getElem?_set_ne (by omega)]; exact e5 a (by omega)
                  exact this
                · rename_i hq1
                  rw [if_neg hq1] at hct
                  rw [show countD 1 (x.l.take i) = countD 1 (x.l.take (i + 1)) from by omega]
                  refine ih (i + 1) l' M' (by omega) (by omega) e3 (fun a ha => ?_) (fun a ha => e5 a (by omega)) g
                  by_cases hai : a = i
                  · subst hai
                    rw [hj', hj]
                    simp only [Option.map_some, if_neg hq1]
                  · exact e4 a (by omega)
              · have hii : i = x.l.length := by omega
                have hl' : l' = x.l.map fun j => if j.queue = 1 then { j with queue := 0 } else j := List.ext_getElem? fun a => by
                  rw [List.getElem?_map]
                  by_cases ha : a < i
                  · exact e4 a ha
                  · rw [e5 a (by omega), List.getElem?_eq_none (by omega)]; rfl
                subst hii
                rw [List.take_length, bR4]
                simp only [ob_v, shA_v, shCons_v, shI_v, shNil_v]
                rw [hl'] at g
                exact fin M' _ _ hd g
          exact ⟨_, key (x.l.length + 1) 0 x.l M2 (by omega) (by omega) rfl (fun a ha => by omega) (fun a _ => rfl) g3⟩
      · -- Count
        rename_i k6
        have k : c.kind = 7 := by omega
        have hd := do22_7 (x := x) hbq k
        simp only [ld_one W.c3, add_eq, Nat.zero_add, (LC o1).2.1, ob_v, shI_v]
        refine dCount_ok g3 hL ?_
        simp only [shI_v]
        rw [bR4]
        simp only [ob_v, shA_v, shCons_v, shI_v, shNil_v]
        exact fin M2 _ _ hd g3
end
end
end Go.Proofs.Ytedofpnjmnkedaa.HL
set_option linter.unusedVariables false
set_option linter.unusedSimpArgs false
set_option maxRecDepth 100000
namespace Go.Proofs.Ytedofpnjmnkedaa.HL
open Go.RowKit (Below)
open Go.Proofs
section
variable {w0 : World} {F M : Mem} {R : Value → Mem → Prop} {d : Nat} {x : D22} {Q : Asn}
def D22.new (n : Int) : D22 := ⟨n, 0, 0, ⟨n, [], [], [], []⟩, []⟩
theorem dNew_ok {n : Int} (h : Holds w0 F M Q) (h0 : 0 ≤ n) (h1 : n ≤ 65536) (hR : ∀ M' d, Holds w0 F M' (star (DispA d (D22.new n)) Q) → R (.pointer (some ⟨d, 0, none⟩)) M') : C PP w0 Id.d2_New #[.int .i64 n] R M := by
  apply d2_New.go
  unfold d2_New.T
  refine rPNew_ok h h0 h1 fun M1 p g1 => ?_
  rw [shP_v]
  have hb : (std PP w0).bld tD [(0, .int .i64 n), (3, .pointer (some ⟨p, 0, none⟩))] = some (.agg #[.int .i64 n, .int .i64 0, .int .i64 0, .pointer (some ⟨p, 0, none⟩), .slice none 0 0]) := by kernel_rfl
  rw [hb]
  simp only [ob_v, shA_v, shCons_v, shI_v, shP_v, shS_v, shNil_v]
  intro d hd0 hdw
  have g := Holds.new g1 hd0 hdw [.int .i64 n, .int .i64 0, .int .i64 0, .pointer (some ⟨p, 0, none⟩), SV.v ⟨none, 0, 0⟩] tD
  refine hR _ d ?_
  obtain ⟨F1, k1, _, k2⟩ := g.last
  have : DH w0 F _ d (D22.new n) p ⟨none, 0, 0⟩ Q := k2 _ _ (Holds.nilSlk (k := 6) k1)
  exact this.close
theorem dDo_ok {c : Cmd} (h : Holds w0 F M (star (DispA d x) Q)) (hok : DOk x) (hn : In64 x.now) (hct : In64 c.time)
    (hR : ∀ M', Holds w0 F M' (star (DispA d (do22 x c).1) Q) → R (do22 x c).2.v M') :
    C PP w0 Id.dD_Do #[.pointer (some ⟨d, 0, none⟩), c.v] R M := by
  apply dD_Do.go
  intro pts H
  unfold dD_Do.T
  have hL := hok.ll
  intro b1 hb0 hbw
  have g1 := (Holds.new h hb0 hbw [.int .i64 c.kind, .int .i64 c.queue, .int .i64 c.at_, .int .i64 c.gen, .int .i64 c.time, .int .i64 c.data] tCmd).rot
  change Holds w0 F (M.set b1 (.row [.int .i64 c.kind, .int .i64 c.queue, .int .i64 c.at_, .int .i64 c.gen, .int .i64 c.time, .int .i64 c.data] tCmd)) (star (DispA d x) (star (row1 b1 [.int .i64 c.kind, .int .i64 c.queue, .int .i64 c.at_, .int .i64 c.gen, .int .i64 c.time, .int .i64 c.data] tCmd) Q)) at g1
  generalize M.set b1 _ = M1 at g1 ⊢
  intro b3 hb3 hbw3
  have g3 := (Holds.new g1 hb3 hbw3 [.int .i64 0, .int .i64 0, .int .i64 0, .int .i64 0, .int .i64 0, .int .i64 0] tRep).rot
  change Holds w0 F (M1.set b3 (.row [.int .i64 0, .int .i64 0, .int .i64 0, .int .i64 0, .int .i64 0, .int .i64 0] tRep)) (star (DispA d x) (star (row1 b3 zR tRep) (star (row1 b1 [.int .i64 c.kind, .int .i64 c.queue, .int .i64 c.at_, .int .i64 c.gen, .int .i64 c.time, .int .i64 c.data] tCmd) Q))) at g3
  generalize M1.set b3 _ = M2 at g3 ⊢
  have LC : ∀ {M' : Mem}, Own w0 M' b1 [.int .i64 c.kind, .int .i64 c.queue, .int .i64 c.at_, .int .i64 c.gen, .int .i64 c.time, .int .i64 c.data] tCmd → rd w0 M' ⟨b1, 0, none⟩ = some (.int .i64 c.kind) ∧ rd w0 M' ⟨b1, 1, none⟩ = some (.int .i64 c.queue) ∧ rd w0 M' ⟨b1, 4, none⟩ = some (.int .i64 c.time) ∧ (std PP w0).ld tCmd ⟨b1, 0, none⟩ M' = some (.agg #[.int .i64 c.kind, .int .i64 c.queue, .int .i64 c.at_, .int .i64 c.gen, .int .i64 c.time, .int .i64 c.data]) ∧ (std PP w0).ld 25 ⟨b1, 2, none⟩ M' = some (.agg #[.int .i64 c.at_, .int .i64 c.gen]) := fun o =>
    ⟨rd_own (o := 0) o, rd_own (o := 1) o, rd_own (o := 4) o, ld_agg (cs := c.cells) W.g27 (fun j v hj => by rw [add_eq, rd_own o, Nat.zero_add]; exact hj), ld_agg (cs := [.int .i64 c.at_, .int .i64 c.gen]) W.g25 (fun j v hj => by
      rw [add_eq, rd_own o]
      match j, hj with
      | 0, hj => exact hj
      | 1, hj => exact hj)⟩
  have strip : ∀ {M5 : Mem} {x' : D22}, Holds w0 F M5 (star (DispA d x') (star (row1 b1 [.int .i64 c.kind, .int .i64 c.queue, .int .i64 c.at_, .int .i64 c.gen, .int .i64 c.time, .int .i64 c.data] tCmd) Q)) → Holds w0 F M5 (star (DispA d x') Q) := fun g5 => by
    obtain ⟨F', k1, _, k2⟩ := g5.last
    exact k2 _ _ k1.right
  have fin : ∀ (M4 : Mem) (x' : D22) (r : Rep), do22 x c = (x', r) → Holds w0 F M4 (star (DispA d x') (star (row1 b3 zR tRep) (star (row1 b1 [.int .i64 c.kind, .int .i64 c.queue, .int .i64 c.at_, .int .i64 c.gen, .int .i64 c.time, .int .i64 c.data] tCmd) Q))) →
      (std PP w0).st tRep ⟨b3, 0, none⟩ (.agg #[.int .i64 r.why, .int .i64 r.at_, .int .i64 r.gen, .int .i64 r.time, .int .i64 r.data, .int .i64 r.n]) (fun M14 => ob ((std PP w0).rdv tRep (.pointer (some ⟨b3, 0, none⟩)) M14) fun v15 => R v15 M14) M4 := by
    intro M4 x' r hd g
    refine resRep g.rot rfl fun M5 g5 => ?_
    rw [hd] at hR
    exact hR M5 (strip g5)
  have o1 := g3.right.right.own1
  have keyJ2 : ¬ (c.kind = 1 ∨ c.kind = 5 ∨ c.kind = 6 ∨ c.kind = 7) → ∀ t : Bool, (t = true ↔ (c.kind = 2 ∨ c.kind = 3)) → dD_Do.J2 pts (some ⟨d, 0, none⟩) ⟨b1, 0, none⟩ ⟨b3, 0, none⟩ c.kind t M2 := by
    intro hnq t ht
    rw [H.J2]
    unfold dD_Do.J2.T
    cases t with
    | true =>
      have hk := ht.1 rfl
      have hd := do22_23 (x := x) hk
      rw [bs_true]
      obtain ⟨p, s, hs⟩ := DispA.open_ g3
      simp only [nc_v, ld_one W.c50, add_eq, Nat.zero_add, hs.rp, (LC o1).2.2.2.2, ob_v, shP_v, shA_v, shCons_v, shI_v, shNil_v]
      obtain ⟨F1, hp, _⟩ := hs.pool
      refine rLook_ok hp hok.pl fun M3 l3 => ?_
      have g4 := g3.le l3
      have o4 := g4.right.right.own1
      rw [shI_v, bs_bne]
      split
      · rename_i hz
        rw [if_neg (fun hh => hh hz)] at hd
        obtain ⟨k, hat⟩ := hok.look _ _ hz
        simp only [(LC o4).2.2.2.2, ob_v, shA_v, shCons_v, shI_v, shNil_v]
        refine dAt_ok g4 hL fun M5 l5 => ?_
        rw [hat] at hd ⊢
        have hkl : k < x.l.length := (List.findIdx?_eq_some_iff_getElem.1 hat).1
        have hj := List.getElem?_eq_getElem hkl
        generalize x.l[k] = j at hj
        simp only [hj] at hd
        have g5 := g4.le l5
        have o5 := g5.right.right.own1
        simp only [ld_one W.c3, (LC o5).1, ob_v, shI_v]
        rw [bs_beq]
        split
        · rename_i k3
          rw [if_pos k3] at hd
          refine dOut_ok g5 hok hj fun M6 h6 => ?_
          unfold Jb.v
          simp only [shA_v, shCons_v, shI_v, shNil_v]
          intro b5 hb5 hbw5
          have g6 := Holds.new h6 hb5 hbw5 [.int .i64 0, .int .i64 0, .int .i64 0, .int .i64 0, .int .i64 0, .int .i64 0] tJb
          generalize M6.set b5 _ = M7 at g6 ⊢
          refine st_agg (vs := jdC j) W.g74 g6.own1 (by simp [jdC]) (jdC_one j) ?_
          have g7 := g6.upd1 (cs' := over [.int .i64 0, .int .i64 0, .int .i64 0, .int .i64 0, .int .i64 0, .int .i64 0] 0 (jdC j)) (e' := tJb)
          have hov : over [.int .i64 0, .int .i64 0, .int .i64 0, .int .i64 0, .int .i64 0, .int .i64 0] 0 (jdC j) = jdC j := rfl
          rw [hov] at g7 ⊢
          generalize M7.set b5 _ = M8 at g7 ⊢
          have hb7 := boxJ g7.own1 rfl
          simp only [ld_one W.c3, ld_one W.c2, add_eq, Nat.zero_add, hb7.2.2.1, hb7.2.2.2, ob_v, shA_v, shCons_v, shI_v, shNil_v, bR23]
          exact fin M8 _ _ hd g7.right
        · rename_i k3
          rw [if_neg k3] at hd
          obtain ⟨p, s, hs5⟩ := DispA.open_ g5
          obtain ⟨blk, hsa, hns, hin, hrd⟩ := hs5.job hj
          have hbd : 0 ≤ (k : Int) ∧ (k : Int) < ((s.n : Nat) : Int) := ⟨by omega, by omega⟩
          have ek : rd w0 M5 ⟨blk, k * 6 + 2, none⟩ = some (.int .i64 j.key) := hrd 2 _ rfl
          simp only [nc_v, ld_one W.c51, ld_one W.c2, add_eq, Nat.zero_add, hs5.rl, (LC o5).2.2.1, ob_v, shS_sv, hsa, Int.toNat_natCast, ek, shI_v]
          refine ⟨hbd, ?_⟩
          rw [bs_decide]
          split
          · rename_i hk2
            rw [if_pos (show j.key < c.time from hk2)] at hd
            rw [bR0]
            simp only [ob_v, shA_v, shCons_v, shI_v, shNil_v]
            exact fin M5 x { why := 26 } hd g5
          · rename_i hk2
            rw [if_neg (show ¬ j.key < c.time from hk2)] at hd
            refine ⟨hbd, ?_⟩
            refine DH.set hs5 W.c2 (j' := { j with key := c.time }) hj (by decide) rfl rfl rfl hsa fun M6 h6 => ?_
            have o6 := h6.right.right.right.right.own1
            obtain ⟨blk', hsa', _, _, hrd6⟩ := DH.job (x := { x with l := x.l.set k { j with key := c.time } }) h6 (i := k) (j := { j with key := c.time }) (List.getElem?_set_self hkl)
            rw [hsa] at hsa'; cases hsa'
            have ed : rd w0 M6 ⟨blk, k * 6 + 1, none⟩ = some (.int .i64 j.data) := hrd6 1 _ rfl
            have rl6 : rd w0 M6 ⟨d, 4, none⟩ = some (SV.v s) := h6.rl
            simp only [nc_v, ld_one W.c51, ld_one W.c3, ld_one W.c2, add_eq, Nat.zero_add, rl6, (LC o6).2.2.1, ob_v, shS_sv, hsa, Int.toNat_natCast, ed, shA_v, shCons_v, shI_v, shNil_v, bR23]
            refine ⟨hbd, ?_⟩
            exact fin M6 _ _ hd (DH.close (x := { x with l := x.l.set k { j with key := c.time } }) h6)
      · rename_i hz
        rw [if_pos hz] at hd
        rw [bR0]
        simp only [ob_v, shA_v, shCons_v, shI_v, shNil_v]
        exact fin M3 _ _ hd g4
    | false =>
      have hk : ¬ (c.kind = 2 ∨ c.kind = 3) := fun hh => by have := ht.2 hh; cases this
      rw [bs_false, bs_beq]
      split
      · rename_i k
        have hd := do22_4 (x := x) k
        simp only [ld_one W.c2, add_eq, Nat.zero_add, (LC o1).2.2.1, ob_v, shI_v]
        rw [bs_decide]
        split
        · rename_i ht
          rw [if_pos ht] at hd
          rw [bR0]
          simp only [ob_v, shA_v, shCons_v, shI_v, shNil_v]
          exact fin M2 _ _ hd g3
        · rename_i ht
          rw [if_neg ht] at hd
          obtain ⟨p, s, hs⟩ := DispA.open_ g3
          simp only [nc_v, ld_one W.c2, add_eq, Nat.zero_add, hs.rn, ob_v, shI_v]
          refine rAdd_ok hn hct ?_
          simp only [shI_v]
          refine st_one W.c2 hs.own1 (by simp) rfl rfl ?_
          have h6 := hs.upd1 (cs' := [.int .i64 x.most, .int .i64 (addc x.now c.time), .int .i64 x.next, .pointer (some ⟨p, 0, none⟩), SV.v s]) (e' := tD)
          rw [show ([.int .i64 x.most, .int .i64 x.now, .int .i64 x.next, .pointer (some ⟨p, 0, none⟩), SV.v s] : List Value).set 1 (.int .i64 (addc x.now c.time)) = [.int .i64 x.most, .int .i64 (addc x.now c.time), .int .i64 x.next, .pointer (some ⟨p, 0, none⟩), SV.v s] from rfl]
          generalize M2.set d _ = M6 at h6 ⊢
          have en6 : rd w0 M6 ⟨d, 1, none⟩ = some (.int .i64 (addc x.now c.time)) := rd_own (o := 1) h6.own1
          simp only [en6, ob_v, shA_v, shCons_v, shI_v, shNil_v, bR2]
          exact fin M6 _ _ hd (DH.close (x := { x with now := addc x.now c.time }) h6)
      · rename_i k
        have hd := do22_8 (x := x) (c := c) (by omega)
        rw [bR0]
        simp only [ob_v, shA_v, shCons_v, shI_v, shNil_v]
        exact fin M2 _ _ hd g3
  have keyJ1 : ∀ t : Bool, (t = true ↔ (c.kind = 1 ∨ c.kind = 5 ∨ c.kind = 6 ∨ c.kind = 7)) → dD_Do.J1 pts (some ⟨d, 0, none⟩) ⟨b1, 0, none⟩ ⟨b3, 0, none⟩ c.kind t M2 := by
    intro t ht
    rw [H.J1]
    unfold dD_Do.J1.T
    cases t with
    | true =>
      have hk := ht.1 rfl
      rw [bs_true]
      have hcall : (c.queue = 0 ∨ c.queue = 1) → C PP w0 Id.dD_queue #[.pointer (some ⟨d, 0, none⟩), c.v] (fun v53 M54 => shA v53 fun l55 => shCons l55 fun u56 r57 => shI .i64 u56 fun n58 => shCons r57 fun u59 r60 => shI .i64 u59 fun n61 => shCons r60 fun u62 r63 => shI .i64 u62 fun n64 => shCons r63 fun u65 r66 => shI .i64 u65 fun n67 => shCons r66 fun u68 r69 => shI .i64 u68 fun n70 => shCons r69 fun u71 r72 => shI .i64 u71 fun n73 => shNil r72 ((std PP w0).st tRep ⟨b3, 0, none⟩ (.agg #[.int .i64 n58, .int .i64 n61, .int .i64 n64, .int .i64 n67, .int .i64 n70, .int .i64 n73]) (fun M74 => ob ((std PP w0).rdv tRep (.pointer (some ⟨b3, 0, none⟩)) M74) fun v75 => R v75 M74) M54)) M2 := fun hq => by
        refine dQueue_ok g3 hok hq hk fun M5 h5 => ?_
        unfold Rep.v
        simp only [shA_v, shCons_v, shI_v, shNil_v]
        exact fin M5 _ _ rfl h5
      simp only [ld_one W.c3, add_eq, Nat.zero_add, (LC o1).2.1, (LC o1).2.2.2.1, ob_v, shA_v, shCons_v, shI_v, shNil_v]
      rw [bs_bne]
      split
      · rename_i hq
        exact hcall (.inl hq)
      · rename_i hq
        rw [bs_bne]
        split
        · rename_i hq1
          exact hcall (.inr hq1)
        · rename_i hq1
          rw [bR0]
          simp only [ob_v, shA_v, shCons_v, shI_v, shNil_v]
          exact fin M2 _ _ (do22_bad ⟨hk, by omega⟩) g3
    | false =>
      have hk : ¬ (c.kind = 1 ∨ c.kind = 5 ∨ c.kind = 6 ∨ c.kind = 7) := fun hh => by have := ht.2 hh; cases this
      rw [bs_false, bs_beq]
      split
      · rename_i k
        exact keyJ2 hk _ (by rw [k]; simp)
      · rename_i k
        refine keyJ2 hk _ ?_
        simp only [beq_iff_eq]
        constructor
        · intro hh; exact .inr hh
        · intro hh; omega
  simp only [ld_one W.c3, (LC o1).1, ob_v, shI_v]
  rw [bs_beq]
  split
  · rename_i k; exact keyJ1 _ (by rw [k]; simp)
  · rename_i k1
    rw [bs_beq]
    split
    · rename_i k; exact keyJ1 _ (by rw [k]; simp)
    · rename_i k2
      rw [bs_beq]
      split
      · rename_i k; exact keyJ1 _ (by rw [k]; simp)
      · rename_i k3
        refine keyJ1 _ ?_
        simp only [beq_iff_eq]
        constructor
        · intro hh; exact .inr (.inr (.inr hh))
        · intro hh; omega
end
end Go.Proofs.Ytedofpnjmnkedaa.HL
set_option linter.unusedVariables false
set_option linter.unusedSimpArgs false
namespace Go.Proofs.Ytedofpnjmnkedaa.HL
def mkJ (j : JobA) (i : Nat) : Jb := ⟨j.queue, j.data, j.key, (i : Int), j.at_, j.gen⟩
def inJ : Nat → List JobA → List Jb
  | _, [] => []
  | n, j :: l => if j.inn = true then mkJ j n :: inJ (n + 1) l else inJ (n + 1) l
theorem inJ_app : ∀ (l m : List JobA) (n : Nat), inJ n (l ++ m) = inJ n l ++ inJ (n + l.length) m
  | [], m, n => rfl
  | j :: l, m, n => by
    simp only [List.cons_append, inJ, inJ_app l m (n + 1), List.length_cons]
    rw [show n + 1 + l.length = n + (l.length + 1) from by omega]
    split <;> rfl
theorem inJ_mid (A B : List JobA) (j : JobA) (n : Nat) : inJ n (A ++ j :: B) = inJ n A ++ ((if j.inn = true then [mkJ j (n + A.length)] else []) ++ inJ (n + A.length + 1) B) := by
  rw [inJ_app, inJ]
  split <;> rfl
theorem inJ_mem : ∀ {l : List JobA} {n : Nat} {x : Jb}, x ∈ inJ n l → ∃ (i : Nat) (j : JobA), l[i]? = some j ∧ j.inn = true ∧ x = mkJ j (n + i)
  | [], n, x, h => by cases h
  | j :: l, n, x, h => by
    rw [inJ] at h
    split at h
    · rename_i hc
      rcases List.mem_cons.1 h with rfl | h
      · exact ⟨0, j, rfl, hc, rfl⟩
      · obtain ⟨i, k, h1, h2, h3⟩ := inJ_mem h
        exact ⟨i + 1, k, h1, h2, by rw [h3, show n + 1 + i = n + (i + 1) from by omega]⟩
    · obtain ⟨i, k, h1, h2, h3⟩ := inJ_mem h
      exact ⟨i + 1, k, h1, h2, by rw [h3, show n + 1 + i = n + (i + 1) from by omega]⟩
theorem inJ_len (n : Nat) (l : List JobA) : (inJ n l).length = (inE (fun _ => true) n l).length := by
  induction l generalizing n with
  | nil => rfl
  | cons j l ih =>
    rw [inJ, inE, Bool.and_true]
    split
    · rw [List.length_cons, List.length_cons, ih]
    · exact ih _
theorem inJ_count (q : Int) (n : Nat) (l : List JobA) : countD q (inJ n l) = (inE (ofQ q) n l).length := by
  induction l generalizing n with
  | nil => rfl
  | cons j l ih =>
    have ih' := ih (n + 1)
    unfold countD at ih' ⊢
    rw [inJ, inE]
    by_cases hi : j.inn = true
    · rw [if_pos hi, List.countP_cons, ih']
      by_cases hq : j.queue = q
      · simp [hi, ofQ, hq, mkJ]
      · simp [hi, ofQ, hq, mkJ]
    · rw [if_neg hi, ih', if_neg (by simp [hi])]
theorem inJ_merge (n : Nat) (l : List JobA) (h : QInv l) : inJ n (l.map fun j => { j with queue := 0 }) = (inJ n l).map fun j => if j.queue = 1 then { j with queue := 0 } else j := by
  induction l generalizing n with
  | nil => rfl
  | cons j l ih =>
    have ih' := ih (n + 1) (fun x hx => h x (List.mem_cons_of_mem _ hx))
    rw [List.map_cons, inJ, inJ, ih']
    by_cases hi : j.inn = true
    · rw [if_pos hi, if_pos hi, List.map_cons]
      congr 1
      rcases h j List.mem_cons_self with hq | hq
      · rw [if_neg (by simp [mkJ, hq])]
        unfold mkJ
        rw [hq]
      · rw [if_pos (by simp [mkJ, hq])]; rfl
    · rw [if_neg hi, if_neg hi]
theorem inJ_at {l : List JobA} {i : Nat} {j : JobA} (h : l[i]? = some j) (hin : j.inn = true) : ∃ k, (inJ 0 l)[k]? = some (mkJ j i) ∧ (∀ k' x, k' < k → (inJ 0 l)[k']? = some x → ∃ i' j', i' < i ∧ l[i']? = some j' ∧ x = mkJ j' i') ∧
    (inJ 0 l).eraseIdx k = inJ 0 (l.set i { j with inn := false }) ∧ (∀ t, (inJ 0 l).set k (mkJ { j with key := t } i) = inJ 0 (l.set i { j with key := t })) ∧ ∀ k' x, (inJ 0 l)[k']? = some x → x.ser = (i : Int) → k' = k := by
  obtain ⟨A, B, rfl, hl, hs⟩ := split_at h
  refine ⟨(inJ 0 A).length, ?_, ?_, ?_, ?_, ?_⟩
  · rw [inJ_mid, if_pos hin, List.getElem?_append_right (Nat.le_refl _), Nat.sub_self, Nat.zero_add, hl]; rfl
  · intro k' x hk hx
    rw [inJ_mid, List.getElem?_append_left hk] at hx
    obtain ⟨i', j', h1, h2, h3⟩ := inJ_mem (List.mem_of_getElem? hx)
    have hlt := (List.getElem?_eq_some_iff.1 h1).1
    exact ⟨i', j', by omega, by rw [List.getElem?_append_left hlt]; exact h1, by rw [h3, Nat.zero_add]⟩
  · rw [hs, inJ_mid, inJ_mid, if_pos hin, if_neg (by simp), List.nil_append, List.singleton_append, List.eraseIdx_append_of_length_le (Nat.le_refl _), Nat.sub_self]; rfl
  · intro t
    rw [hs, inJ_mid, inJ_mid, if_pos hin, if_pos (by exact hin), List.set_append_right _ _ (Nat.le_refl _), Nat.sub_self, Nat.zero_add, hl]; rfl
  · intro k' x hx hser
    rw [inJ_mid, if_pos hin, Nat.zero_add, hl] at hx
    by_cases h1 : k' < (inJ 0 A).length
    · rw [List.getElem?_append_left h1] at hx
      obtain ⟨i', j', h3, _, h4⟩ := inJ_mem (List.mem_of_getElem? hx)
      have hlt := (List.getElem?_eq_some_iff.1 h3).1
      rw [h4] at hser
      simp only [mkJ] at hser; omega
    · by_cases h2 : k' = (inJ 0 A).length
      · exact h2
      · rw [List.getElem?_append_right (by omega), List.singleton_append, show k' - (inJ 0 A).length = (k' - (inJ 0 A).length - 1) + 1 from by omega, List.getElem?_cons_succ] at hx
        obtain ⟨i', j', h3, _, h4⟩ := inJ_mem (List.mem_of_getElem? hx)
        rw [h4] at hser
        simp only [mkJ] at hser; omega
structure RelD (jobs : Int) (d : D22) (st : St) : Prop where
  mo : d.pool.most = jobs
  now : d.now = st.now
  nx : d.next = (st.l.length : Int)
  l : d.l = inJ 0 st.l
  pl : PlOk d.pool
  r1 : ∀ (i : Nat) j, st.l[i]? = some j → ∃ (n : Nat) (g : Int), j.at_ = (n : Int) ∧ d.pool.gens[n]? = some g ∧ 1 ≤ j.gen ∧ j.gen ≤ g ∧ (j.inn = true ↔ (g = j.gen ∧ d.pool.ins[n]? = some true))
  r2 : ∀ (n : Nat) (g g' : Int), d.pool.gens[n]? = some g → 1 ≤ g' → g' ≤ g → ∃ j ∈ st.l, j.at_ = (n : Int) ∧ j.gen = g'
  r3 : (st.l.map fun j => (j.at_, j.gen)).Nodup
  r4 : d.l.length + d.pool.back.length = d.pool.gens.length
  r5 : ∀ g ∈ d.pool.gens, 1 ≤ g ∧ g ≤ (st.l.length : Int)
  r6 : (d.pool.gens.length : Int) ≤ jobs
  q : QInv st.l
theorem RelD.new {n : Int} (h : 0 ≤ n) : RelD n (D22.new n) ⟨0, []⟩ :=
  ⟨rfl, rfl, rfl, rfl, PlOk.nil n, fun i j h => (by simp at h), fun n g g' h => (by simp [D22.new] at h), List.nodup_nil, rfl, fun g h => (by cases h), h, fun j h => (by cases h)⟩
section
variable {jobs : Int} {d : D22} {st : St}
theorem findA_spec {l : List JobA} {a g : Int} {i : Nat} (h : findA l a g = some i) : ∃ j, l[i]? = some j ∧ j.at_ = a ∧ j.gen = g := by
  obtain ⟨h1, h2, _⟩ := List.findIdx?_eq_some_iff_getElem.1 h
  exact ⟨l[i], List.getElem?_eq_getElem h1, by simpa using h2⟩
theorem findA_of {l : List JobA} (hn : (l.map fun j => (j.at_, j.gen)).Nodup) {i : Nat} {j : JobA} (h : l[i]? = some j) : findA l j.at_ j.gen = some i := by
  obtain ⟨hi, rfl⟩ := List.getElem?_eq_some_iff.1 h
  unfold findA
  refine List.findIdx?_eq_some_iff_getElem.2 ⟨hi, by simp, fun k hk => ?_⟩
  have hkl : k < l.length := by omega
  simp only [decide_eq_true_eq]
  intro hh
  exact List.pairwise_iff_getElem.1 hn k i (by simpa using hkl) (by simpa using hi) hk (by simp only [List.getElem_map]; exact Prod.ext hh.1 hh.2)
theorem RelD.look_none (h : RelD jobs d st) {a g : Int} (hf : findA st.l a g = none) : d.pool.look a g = 22 := by
  unfold Pl.look
  by_cases hc : a < 0 ∨ (d.pool.gens.length : Int) ≤ a ∨ g < 1 ∨ d.pool.gens.getD a.toNat 0 < g
  · rw [if_pos hc]
  · exfalso
    have hlt : a.toNat < d.pool.gens.length := by omega
    have hg := List.getElem?_eq_getElem hlt
    rw [List.getD_eq_getElem?_getD, hg] at hc
    simp only [Option.getD_some] at hc
    obtain ⟨j, hj, h1, h2⟩ := h.r2 a.toNat _ g hg (by omega) (by omega)
    have := List.findIdx?_eq_none_iff.1 hf j hj
    simp only [decide_eq_false_iff_not] at this
    exact this ⟨by omega, h2⟩
theorem RelD.look_some (h : RelD jobs d st) {i : Nat} {j : JobA} (hj : st.l[i]? = some j) : d.pool.look j.at_ j.gen = if j.inn = true then 0 else 23 := by
  obtain ⟨n, g, h1, h2, h3, h4, h5⟩ := h.r1 i j hj
  have hlt := (List.getElem?_eq_some_iff.1 h2).1
  unfold Pl.look
  rw [h1, Int.toNat_natCast, List.getD_eq_getElem?_getD, h2, List.getD_eq_getElem?_getD]
  simp only [Option.getD_some]
  rw [if_neg (by omega)]
  by_cases hi : j.inn = true
  · obtain ⟨h6, h7⟩ := h5.1 hi
    rw [if_pos hi, h7, if_neg (fun hh => by rcases hh with hh | hh; omega; cases hh)]
  · rw [if_neg hi, if_pos]
    by_cases hg : j.gen < g
    · exact .inl hg
    · right
      have hge : g = j.gen := by omega
      have hni : d.pool.ins[n]? ≠ some true := fun hh => hi (h5.2 ⟨hge, hh⟩)
      cases hx : d.pool.ins[n]? with
      | none => rfl
      | some b =>
        cases b with
        | true => exact absurd hx hni
        | false => rfl
theorem RelD.atD (h : RelD jobs d st) {i : Nat} {j : JobA} (hj : st.l[i]? = some j) (hin : j.inn = true) : ∃ k, atD d.l j.at_ j.gen = some k ∧ d.l[k]? = some (mkJ j i) ∧ d.l.eraseIdx k = inJ 0 (st.l.set i { j with inn := false }) ∧ ∀ t, d.l.set k { mkJ j i with key := t } = inJ 0 (st.l.set i { j with key := t }) := by
  obtain ⟨k, h1, h2, h3, h4, _⟩ := inJ_at hj hin
  rw [← h.l] at h1 h2 h3 h4
  refine ⟨k, ?_, h1, h3, fun t => h4 t⟩
  have hkl := (List.getElem?_eq_some_iff.1 h1).1
  have hke := (List.getElem?_eq_some_iff.1 h1).2
  refine List.findIdx?_eq_some_iff_getElem.2 ⟨hkl, by rw [hke]; simp [mkJ], fun k' hk' => ?_⟩
  simp only [decide_eq_true_eq]
  intro hh
  obtain ⟨i', j', h5, h6, h7⟩ := h2 k' _ hk' (List.getElem?_eq_getElem (by omega))
  rw [h7] at hh
  simp only [mkJ] at hh
  have hii := findA_of h.r3 h6
  rw [hh.1, hh.2, findA_of h.r3 hj] at hii
  simp only [Option.some.injEq] at hii; omega
theorem RelD.all (h : RelD jobs d st) : (allE st.l).length = d.l.length := by
  unfold allE
  rw [sortE_len, ← inJ_len, h.l]
theorem RelD.ok (h : RelD jobs d st) (hj : jobs ≤ 100) (hl : st.l.length ≤ 1000) : DOk d := by
  have h4 := h.r4
  have h6 := h.r6
  refine ⟨h.pl, fun a g hz => ?_, fun j hj => ?_, by omega, by omega, fun g hg => ?_, by omega, by rw [h.nx]; omega⟩
  · cases hf : findA st.l a g with
    | none => rw [h.look_none hf] at hz; cases hz
    | some i =>
      obtain ⟨j, hj, rfl, rfl⟩ := findA_spec hf
      rw [h.look_some hj] at hz
      by_cases hi : j.inn = true
      · obtain ⟨k, hk, _⟩ := h.atD hj hi
        exact ⟨k, hk⟩
      · rw [if_neg hi] at hz; cases hz
  · rw [h.l] at hj
    obtain ⟨i, j0, h1, h2, rfl⟩ := inJ_mem hj
    have := h.look_some h1
    rw [if_pos h2] at this
    exact this
  · have := h.r5 g hg
    omega
theorem RelD.outs (h : RelD jobs d st) {i : Nat} {j : JobA} (hj : st.l[i]? = some j) (hin : j.inn = true) {k : Nat} (hk : d.l[k]? = some (mkJ j i)) (he : d.l.eraseIdx k = inJ 0 (st.l.set i { j with inn := false })) : RelD jobs (d.out k) ⟨st.now, st.l.set i { j with inn := false }⟩ := by
  have hil := (List.getElem?_eq_some_iff.1 hj).1
  obtain ⟨n, g, h1, h2, h3, h4, h5⟩ := h.r1 i j hj
  obtain ⟨h6, h7⟩ := h5.1 hin
  have hnl := (List.getElem?_eq_some_iff.1 h7).1
  have hout : d.out k = { d with l := d.l.eraseIdx k, pool := d.pool.give n } := by
    unfold D22.out
    rw [hk]
    simp only [mkJ, h1, Int.toNat_natCast]
  rw [hout]
  have hag : ∀ (a : Nat) (x : JobA), (st.l.set i { j with inn := false })[a]? = some x → ∃ y, st.l[a]? = some y ∧ x.at_ = y.at_ ∧ x.gen = y.gen := fun a x hx => by
    by_cases ha : a = i
    · subst ha
      rw [List.getElem?_set_self hil] at hx; cases hx
      exact ⟨j, hj, rfl, rfl⟩
    · rw [List.getElem?_set_ne (Ne.symm ha)] at hx
      exact ⟨x, hx, rfl, rfl⟩
  have hmap : (st.l.set i { j with inn := false }).map (fun j => (j.at_, j.gen)) = st.l.map fun j => (j.at_, j.gen) := by
    obtain ⟨_, rfl⟩ := List.getElem?_eq_some_iff.1 hj
    rw [List.map_set]
    simp only
    rw [show (st.l[i].at_, st.l[i].gen) = (st.l.map fun j => (j.at_, j.gen))[i]'(by simpa using hil) from by simp, List.set_getElem_self]
  refine ⟨h.mo, h.now, by rw [List.length_set]; exact h.nx, he, h.pl.give h7, fun a x hx => ?_, fun n' g1 g' hg1 h8 h9 => ?_, by rw [hmap]; exact h.r3, ?_, fun g' hg' => ?_, h.r6, fun x hx => ?_⟩
  · by_cases ha : a = i
    · subst ha
      rw [List.getElem?_set_self hil] at hx; cases hx
      refine ⟨n, g, h1, h2, h3, h4, ?_⟩
      simp only [Bool.false_eq_true, false_iff]
      intro hh
      simp only [Pl.give] at hh
      rw [List.getElem?_set_self hnl] at hh
      cases hh.2
    · rw [List.getElem?_set_ne (Ne.symm ha)] at hx
      obtain ⟨n', g', k1, k2, k3, k4, k5⟩ := h.r1 a x hx
      refine ⟨n', g', k1, k2, k3, k4, ?_⟩
      by_cases hnn : n' = n
      · subst hnn
        simp only [Pl.give]
        rw [List.getElem?_set_self hnl]
        rw [h2] at k2; cases k2
        constructor
        · intro hxi
          obtain ⟨k6, _⟩ := k5.1 hxi
          exfalso
          have hfx := findA_of h.r3 hx
          rw [k1, ← h1, ← k6, h6, findA_of h.r3 hj] at hfx
          exact ha (Option.some.inj hfx).symm
        · rintro ⟨_, hh⟩; cases hh
      · simp only [Pl.give]
        rw [List.getElem?_set_ne (Ne.symm hnn)]; exact k5
  · obtain ⟨x, hx, k1, k2⟩ := h.r2 n' g1 g' hg1 h8 h9
    obtain ⟨a, ha⟩ := List.getElem?_of_mem hx
    by_cases hai : a = i
    · subst hai
      rw [hj] at ha; cases ha
      exact ⟨{ j with inn := false }, List.mem_iff_getElem?.2 ⟨a, by rw [List.getElem?_set_self hil]⟩, k1, k2⟩
    · exact ⟨x, List.mem_iff_getElem?.2 ⟨a, by rw [List.getElem?_set_ne (Ne.symm hai)]; exact ha⟩, k1, k2⟩
  · have := h.r4
    have hkl := (List.getElem?_eq_some_iff.1 hk).1
    simp only [Pl.give, List.length_append, List.length_singleton, List.length_eraseIdx, if_pos hkl]
    omega
  · rw [List.length_set]; exact h.r5 g' hg'
  · rcases List.mem_or_eq_of_mem_set hx with hx | rfl
    · exact h.q x hx
    · exact h.q j (List.mem_of_getElem? hj)
theorem RelD.step (h : RelD jobs d st) {c : Cmd} : ∃ st', stepA jobs st c (do22 d c).2 = some (st', (do22 d c).2) ∧ RelD jobs (do22 d c).1 st' := by
  by_cases hb : badQ c
  · rw [do22_bad hb]
    exact ⟨st, stepA_bad hb, h⟩
  · by_cases k1 : c.kind = 1
    · have hq : c.queue = 0 ∨ c.queue = 1 := by unfold badQ at hb; omega
      rw [do22_1 hb k1]
      have h4 := h.r4
      have h6 := h.r6
      have hall := h.all
      cases ha : d.pool.at_ with
      | none =>
        refine ⟨st, ?_, h⟩
        rw [stepA_1 hb k1, if_pos]
        unfold Pl.at_ at ha
        cases hl : d.pool.back.getLast? with
        | some x => rw [hl] at ha; cases ha
        | none =>
          rw [hl] at ha
          have hbn : d.pool.back = [] := List.getLast?_eq_none_iff.1 hl
          simp only at ha
          split at ha
          · rename_i hm
            rw [h.mo] at hm
            rw [hall]
            rw [hbn] at h4
            simp at h4; omega
          · cases ha
      | some a =>
        simp only
        obtain ⟨a1, a2, a3, a4⟩ := h.pl.take_lt ha
        -- what the place was
        have hold : (a < d.pool.gens.length ∧ d.pool.ins[a]? = some false ∧ d.pool.grow = { d.pool with back := d.pool.back.dropLast } ∧ d.pool.back.getLast? = some a) ∨ (a = d.pool.gens.length ∧ d.pool.back = [] ∧ d.pool.grow = { d.pool with gens := d.pool.gens ++ [0], ins := d.pool.ins ++ [false], vs := d.pool.vs ++ [0] } ∧ (d.pool.gens.length : Int) < jobs) := by
          unfold Pl.at_ at ha
          cases hl : d.pool.back.getLast? with
          | some x =>
            rw [hl] at ha
            simp only [Option.some.injEq] at ha
            subst ha
            have := h.pl.bk x (last_mem hl)
            refine .inl ⟨this.1, this.2, ?_, rfl⟩
            unfold Pl.grow; rw [hl]
          | none =>
            rw [hl] at ha
            simp only at ha
            split at ha
            · cases ha
            · rename_i hm
              simp only [Option.some.injEq] at ha
              refine .inr ⟨ha.symm, List.getLast?_eq_none_iff.1 hl, ?_, by rw [← h.mo]; omega⟩
              unfold Pl.grow; rw [hl]
        have hlive : ¬ jobs ≤ ((allE st.l).length : Int) := by
          rw [hall]
          rcases hold with ⟨b1, b2, b3, b4⟩ | ⟨b1, b2, b3, b4⟩
          · have : d.pool.back.length ≠ 0 := fun e => by rw [List.eq_nil_of_length_eq_zero e] at b4; cases b4
            omega
          · omega
        -- the life that it gets
        have hgen : (∃ g, d.pool.gens[a]? = some g ∧ d.pool.gen a = g + 1) ∨ (d.pool.gens[a]? = none ∧ d.pool.gen a = 1) := by
          unfold Pl.gen
          rcases hold with ⟨b1, b2, b3, b4⟩ | ⟨b1, b2, b3, b4⟩
          · left
            rw [b3]
            exact ⟨d.pool.gens[a], List.getElem?_eq_getElem b1, by simp only; rw [List.getD_eq_getElem?_getD, List.getElem?_eq_getElem b1]; rfl⟩
          · right
            rw [b3, b1]
            refine ⟨List.getElem?_eq_none (Nat.le_refl _), ?_⟩
            simp only
            rw [List.getD_eq_getElem?_getD, List.getElem?_append_right (Nat.le_refl _)]; simp
        have hge1 : 1 ≤ d.pool.gen a := by
          rcases hgen with ⟨g, g1, g2⟩ | ⟨g1, g2⟩
          · have := (h.r5 g (List.mem_of_getElem? g1)).1; omega
          · omega
        have hfresh : ∀ (i : Nat) j, st.l[i]? = some j → j.at_ = (a : Int) → j.gen < d.pool.gen a := fun i j hj hja => by
          obtain ⟨n, g, c1, c2, c3, c4, c5⟩ := h.r1 i j hj
          have hna : n = a := by omega
          subst hna
          rcases hgen with ⟨g', g1, g2⟩ | ⟨g1, g2⟩
          · rw [g1] at c2; cases c2; omega
          · rw [g1] at c2; cases c2
        have hfn : findA st.l (a : Int) (d.pool.gen a) = none := by
          cases hf : findA st.l (a : Int) (d.pool.gen a) with
          | none => rfl
          | some i =>
            obtain ⟨j, hj, e1, e2⟩ := findA_spec hf
            have := hfresh i j hj e1
            omega
        refine ⟨⟨st.now, st.l ++ [⟨(a : Int), d.pool.gen a, c.queue, c.data, c.time, true⟩]⟩, ?_, ?_⟩
        · rw [stepA_1 hb k1, if_neg hlive, if_neg]
          intro hh
          rcases hh with hh | hh
          · simp only at hh; omega
          · simp only [hfn] at hh; cases hh
        · -- the pool behind it
          have hgs : (d.pool.take a 0).gens = d.pool.grow.gens.set a (d.pool.gen a) := rfl
          have his : (d.pool.take a 0).ins = d.pool.grow.ins.set a true := rfl
          have gne : ∀ n, n ≠ a → (d.pool.take a 0).gens[n]? = d.pool.gens[n]? := fun n hn => by
            rw [hgs, List.getElem?_set_ne (Ne.symm hn)]
            rcases hold with ⟨b1, b2, b3, b4⟩ | ⟨b1, b2, b3, b4⟩
            · rw [b3]
            · rw [b3]
              simp only
              by_cases hlt : n < d.pool.gens.length
              · rw [List.getElem?_append_left hlt]
              · rw [List.getElem?_eq_none (by rw [List.length_append, List.length_singleton]; omega), List.getElem?_eq_none (by omega)]
          have ine : ∀ n, n ≠ a → (d.pool.take a 0).ins[n]? = d.pool.ins[n]? := fun n hn => by
            rw [his, List.getElem?_set_ne (Ne.symm hn)]
            rcases hold with ⟨b1, b2, b3, b4⟩ | ⟨b1, b2, b3, b4⟩
            · rw [b3]
            · rw [b3]
              simp only
              have := h.pl.li
              by_cases hlt : n < d.pool.ins.length
              · rw [List.getElem?_append_left hlt]
              · rw [List.getElem?_eq_none (by rw [List.length_append, List.length_singleton]; omega), List.getElem?_eq_none (by omega)]
          have ga : (d.pool.take a 0).gens[a]? = some (d.pool.gen a) := by rw [hgs, List.getElem?_set_self a1]
          have ia : (d.pool.take a 0).ins[a]? = some true := by rw [his, List.getElem?_set_self (by rw [a2]; exact a1)]
          have hjl : (st.l ++ [(⟨(a : Int), d.pool.gen a, c.queue, c.data, c.time, true⟩ : JobA)]).length = st.l.length + 1 := by simp
          refine ⟨h.mo ▸ ?_, h.now, by have := h.nx; simp only [List.length_append, List.length_singleton]; omega, ?_, h.pl.take ha, fun i j hj => ?_, fun n g g' hg c1 c2 => ?_, ?_, ?_, fun g hg => ?_, ?_, fun j hj => ?_⟩
          · unfold Pl.take Pl.put
            rcases hold with ⟨_, _, b3, _⟩ | ⟨_, _, b3, _⟩ <;> rw [b3]
          · rw [inJ_app, ← h.l, inJ, if_pos rfl, inJ, h.nx, Nat.zero_add]; rfl
          · by_cases hi : i < st.l.length
            · rw [List.getElem?_append_left hi] at hj
              obtain ⟨n, g, c1, c2, c3, c4, c5⟩ := h.r1 i j hj
              by_cases hna : n = a
              · subst hna
                refine ⟨n, d.pool.gen n, c1, ga, c3, Int.le_of_lt (hfresh i j hj c1), ?_⟩
                constructor
                · intro hji
                  obtain ⟨_, c6⟩ := c5.1 hji
                  rcases hold with ⟨_, b2, _, _⟩ | ⟨b1, _, _, _⟩
                  · rw [b2] at c6; cases c6
                  · have := (List.getElem?_eq_some_iff.1 c2).1; omega
                · rintro ⟨c6, _⟩
                  have := hfresh i j hj c1; omega
              · exact ⟨n, g, c1, by rw [gne n hna]; exact c2, c3, c4, by rw [ine n hna]; exact c5⟩
            · rw [List.getElem?_append_right (by omega)] at hj
              have : i - st.l.length = 0 := by
                have := (List.getElem?_eq_some_iff.1 hj).1
                simp at this; omega
              rw [this] at hj
              simp at hj; subst hj
              exact ⟨a, d.pool.gen a, rfl, ga, hge1, Int.le_refl _, ⟨fun _ => ⟨rfl, ia⟩, fun _ => rfl⟩⟩
          · by_cases hna : n = a
            · subst hna
              rw [ga] at hg; cases hg
              by_cases hlast : g' = d.pool.gen n
              · exact ⟨⟨(n : Int), d.pool.gen n, c.queue, c.data, c.time, true⟩, List.mem_append_right _ (by simp), rfl, hlast.symm⟩
              · rcases hgen with ⟨g0, g1, g2⟩ | ⟨g1, g2⟩
                · obtain ⟨j, hj, e1, e2⟩ := h.r2 n g0 g' g1 c1 (by omega)
                  exact ⟨j, List.mem_append_left _ hj, e1, e2⟩
                · omega
            · rw [gne n hna] at hg
              obtain ⟨j, hj, e1, e2⟩ := h.r2 n g g' hg c1 c2
              exact ⟨j, List.mem_append_left _ hj, e1, e2⟩
          · rw [List.map_append]
            refine List.nodup_append.2 ⟨h.r3, by simp, fun y hy z hz hyz => ?_⟩
            simp at hz
            obtain ⟨v, hv, rfl⟩ := List.mem_map.1 hy
            subst hyz
            simp only [Prod.mk.injEq] at hz
            obtain ⟨i, hi⟩ := List.getElem?_of_mem hv
            have := hfresh i v hi hz.1
            omega
          · simp only [List.length_append, List.length_singleton, hgs, List.length_set]
            unfold Pl.take Pl.put
            rcases hold with ⟨b1, b2, b3, b4⟩ | ⟨b1, b2, b3, b4⟩
            · rw [b3]
              simp only
              have hs := last_split b4
              have : d.pool.back.length = d.pool.back.dropLast.length + 1 := by
                conv => lhs; rw [hs]
                simp
              omega
            · rw [b3]
              simp only [List.length_append, List.length_singleton]
              omega
          · rw [hjl]
            have hbound : d.pool.gen a ≤ ((st.l.length + 1 : Nat) : Int) := by
              rcases hgen with ⟨g0, g1, g2⟩ | ⟨g1, g2⟩
              · have := h.r5 g0 (List.mem_of_getElem? g1); omega
              · omega
            rw [hgs] at hg
            rcases hold with ⟨b1, b2, b3, b4⟩ | ⟨b1, b2, b3, b4⟩
            · rw [b3] at hg
              rcases List.mem_or_eq_of_mem_set hg with hg | rfl
              · have := h.r5 g hg; omega
              · exact ⟨hge1, hbound⟩
            · rw [b3, b1] at hg
              simp only at hg
              rw [List.set_append_right _ _ (Nat.le_refl _), Nat.sub_self] at hg
              rcases List.mem_append.1 hg with hg | hg
              · have := h.r5 g hg; omega
              · simp at hg
                rw [b1] at hge1 hbound
                rw [hg]; exact ⟨hge1, hbound⟩
          · simp only [hgs, List.length_set]
            rcases hold with ⟨b1, b2, b3, b4⟩ | ⟨b1, b2, b3, b4⟩
            · rw [b3]; exact h6
            · rw [b3]
              simp only [List.length_append, List.length_singleton]
              omega
          · rcases List.mem_append.1 hj with hj | hj
            · exact h.q j hj
            · simp at hj; subst hj; exact hq
    · by_cases k2 : c.kind = 2 ∨ c.kind = 3
      · rw [do22_23 k2]
        cases hf : findA st.l c.at_ c.gen with
        | none =>
          have hlk := h.look_none hf
          rw [hlk, if_pos (by decide)]
          exact ⟨st, by rw [stepA_23 k2, hf], h⟩
        | some i =>
          obtain ⟨j, hj, e1, e2⟩ := findA_spec hf
          have hlk := h.look_some hj
          rw [e1, e2] at hlk
          by_cases hin : j.inn = true
          · rw [if_pos hin] at hlk
            obtain ⟨k, hk1, hk2, hk3, hk4⟩ := h.atD hj hin
            rw [e1, e2] at hk1
            rw [hlk, if_neg (by simp), hk1]
            simp only [hk2]
            by_cases k3 : c.kind = 3
            · rw [if_pos k3]
              refine ⟨⟨st.now, st.l.set i { j with inn := false }⟩, ?_, h.outs hj hin hk2 hk3⟩
              rw [stepA_23 k2, hf]
              simp only [hj, if_neg (show ¬ j.inn = false by rw [hin]; decide), if_pos k3]; rfl
            · rw [if_neg k3]
              by_cases hlt : (mkJ j i).key < c.time
              · rw [if_pos hlt]
                refine ⟨st, ?_, h⟩
                rw [stepA_23 k2, hf]
                simp only [hj, if_neg (show ¬ j.inn = false by rw [hin]; decide), if_neg k3, if_pos (show j.key < c.time from hlt)]
              · rw [if_neg hlt]
                refine ⟨⟨st.now, st.l.set i { j with key := c.time }⟩, ?_, ?_⟩
                · rw [stepA_23 k2, hf]
                  simp only [hj, if_neg (show ¬ j.inn = false by rw [hin]; decide), if_neg k3, if_neg (show ¬ j.key < c.time from hlt)]; rfl
                · have hil := (List.getElem?_eq_some_iff.1 hj).1
                  have hmap : (st.l.set i { j with key := c.time }).map (fun j => (j.at_, j.gen)) = st.l.map fun j => (j.at_, j.gen) := by
                    obtain ⟨_, rfl⟩ := List.getElem?_eq_some_iff.1 hj
                    rw [List.map_set]
                    simp only
                    rw [show (st.l[i].at_, st.l[i].gen) = (st.l.map fun j => (j.at_, j.gen))[i]'(by simpa using hil) from by simp, List.set_getElem_self]
                  refine ⟨h.mo, h.now, by rw [List.length_set]; exact h.nx, hk4 c.time, h.pl, fun a x hx => ?_, fun n g g' hg c1 c2 => ?_, by rw [hmap]; exact h.r3, by simp only [List.length_set]; exact h.r4, by rw [List.length_set]; exact h.r5, h.r6, fun x hx => ?_⟩
                  · by_cases ha : a = i
                    · subst ha
                      rw [List.getElem?_set_self hil] at hx; cases hx
                      exact h.r1 a j hj
                    · rw [List.getElem?_set_ne (Ne.symm ha)] at hx
                      exact h.r1 a x hx
                  · obtain ⟨x, hx, q1, q2⟩ := h.r2 n g g' hg c1 c2
                    obtain ⟨a, ha⟩ := List.getElem?_of_mem hx
                    by_cases hai : a = i
                    · subst hai
                      rw [hj] at ha; cases ha
                      exact ⟨{ j with key := c.time }, List.mem_iff_getElem?.2 ⟨a, by rw [List.getElem?_set_self hil]⟩, q1, q2⟩
                    · exact ⟨x, List.mem_iff_getElem?.2 ⟨a, by rw [List.getElem?_set_ne (Ne.symm hai)]; exact ha⟩, q1, q2⟩
                  · rcases List.mem_or_eq_of_mem_set hx with hx | rfl
                    · exact h.q x hx
                    · exact h.q j (List.mem_of_getElem? hj)
          · rw [if_neg hin] at hlk
            rw [hlk, if_pos (by decide)]
            refine ⟨st, ?_, h⟩
            rw [stepA_23 k2, hf]
            simp only [hj, if_pos (show j.inn = false by simpa using hin)]
      · by_cases k4 : c.kind = 4
        · rw [do22_4 k4]
          by_cases ht : c.time < 0
          · rw [if_pos ht]
            exact ⟨st, by rw [stepA_4 k4, if_pos ht], h⟩
          · rw [if_neg ht]
            refine ⟨⟨addc st.now c.time, st.l⟩, by rw [stepA_4 k4, if_neg ht, h.now], ⟨h.mo, by rw [h.now], h.nx, h.l, h.pl, h.r1, h.r2, h.r3, h.r4, h.r5, h.r6, h.q⟩⟩
        · by_cases k5 : c.kind = 5
          · rw [do22_5 hb k5]
            cases hf : firstD d.l c.queue with
            | none =>
              refine ⟨st, ?_, h⟩
              have hno := (firstG_none hf).2
              rw [stepA_5 hb k5]
              cases hh : (qE c.queue st.l).head? with
              | none => rfl
              | some e =>
                exfalso
                obtain ⟨i, j, h1, h2, h3, h4⟩ := qE_head hh
                obtain ⟨k, h5, _⟩ := inJ_at h1 h2
                rw [← h.l] at h5
                exact hno _ (List.mem_of_getElem? h5) h3
            | some y =>
              obtain ⟨jb, hj, hjq, hye, hmin⟩ := firstD_some hf
              obtain ⟨y1, y2⟩ := y
              simp only at hj hye
              subst hye
              have hjm := List.mem_of_getElem? hj
              rw [h.l] at hjm
              obtain ⟨i, j, h1, h2, h3⟩ := inJ_mem hjm
              rw [Nat.zero_add] at h3
              subst h3
              obtain ⟨k, c1, c2, c3, c4, c5⟩ := inJ_at h1 h2
              rw [← h.l] at c1 c2 c3 c4 c5
              have hky : y1 = k := c5 y1 _ hj rfl
              subst hky
              -- the same one is the first of the queue
              have hhd : (qE c.queue st.l).head? = some (j.key, (i : Int)) := by
                have hmem : (j.key, (i : Int)) ∈ qE c.queue st.l := (sortE_perm _).mem_iff.2 (inE_mem.2 ⟨i, j, h1, h2, by simp only [ofQ, decide_eq_true_eq]; exact hjq, by rw [Nat.zero_add]⟩)
                cases hl : qE c.queue st.l with
                | nil => rw [hl] at hmem; cases hmem
                | cons e t =>
                  have hhe : (qE c.queue st.l).head? = some e := by rw [hl]; rfl
                  obtain ⟨i', j', d1, d2, d3, d4⟩ := qE_head hhe
                  have hsr : Srt (e :: t) := by rw [← hl]; exact sortE_srt _
                  rw [hl] at hmem
                  have n1 : ¬ Lt (j.key, (i : Int)) e := by
                    rcases List.mem_cons.1 hmem with hh | hh
                    · rw [hh]; exact Lt.irr
                    · exact List.rel_of_pairwise_cons hsr hh
                  obtain ⟨k', e1, _⟩ := inJ_at d1 d2
                  rw [← h.l] at e1
                  have n2 : ¬ Lt e (j.key, (i : Int)) := by
                    rw [d4]
                    exact hmin _ (List.mem_of_getElem? e1) d3
                  rw [Lt.tot n1 n2]; rfl
              rw [stepA_5 hb k5, hhd]
              simp only [hj]
              by_cases hdue : d.now < (mkJ j i).e.1
              · rw [if_pos hdue]
                exact ⟨st, by rw [if_pos (by rw [← h.now]; exact hdue)], h⟩
              · rw [if_neg hdue]
                refine ⟨⟨st.now, st.l.set i { j with inn := false }⟩, ?_, h.outs h1 h2 hj c3⟩
                rw [if_neg (by rw [← h.now]; exact hdue)]
                simp only [Int.toNat_natCast, h1]; rfl
          · by_cases k6 : c.kind = 6
            · rw [do22_6 hb k6]
              by_cases hz : c.queue = 0
              · rw [if_pos hz]
                exact ⟨st, by rw [stepA_6 hb k6, if_pos hz], h⟩
              · rw [if_neg hz]
                have hmap : (st.l.map fun j => { j with queue := 0 }).map (fun j => (j.at_, j.gen)) = st.l.map fun j => (j.at_, j.gen) := by rw [List.map_map]; rfl
                refine ⟨⟨st.now, st.l.map fun j => { j with queue := 0 }⟩, ?_, ⟨h.mo, h.now, by rw [List.length_map]; exact h.nx, ?_, h.pl, fun i j hj => ?_, fun n g g' hg c1 c2 => ?_, by rw [hmap]; exact h.r3, by simp only [List.length_map]; exact h.r4, by rw [List.length_map]; exact h.r5, h.r6, fun x hx => ?_⟩⟩
                · rw [stepA_6 hb k6, if_neg hz]
                  congr 3
                  unfold qE
                  rw [sortE_len, h.l, inJ_count]
                · rw [inJ_merge 0 st.l h.q, ← h.l]
                · rw [List.getElem?_map] at hj
                  cases hx : st.l[i]? with
                  | none => rw [hx] at hj; cases hj
                  | some x => rw [hx] at hj; cases hj; exact h.r1 i x hx
                · obtain ⟨x, hx, q1, q2⟩ := h.r2 n g g' hg c1 c2
                  exact ⟨{ x with queue := 0 }, List.mem_map.2 ⟨x, hx, rfl⟩, q1, q2⟩
                · obtain ⟨y, _, rfl⟩ := List.mem_map.1 hx
                  exact .inl rfl
            · by_cases k7 : c.kind = 7
              · rw [do22_7 hb k7]
                refine ⟨st, ?_, h⟩
                rw [stepA_7 hb k7]
                congr 3
                unfold qE
                rw [sortE_len, h.l, inJ_count]
              · rw [do22_8 (by omega)]
                exact ⟨st, stepA_8 (by omega), h⟩
end
end Go.Proofs.Ytedofpnjmnkedaa.HL
set_option linter.unusedVariables false
set_option linter.unusedSimpArgs false
set_option maxRecDepth 100000
namespace Go.Proofs.Ytedofpnjmnkedaa.HL
open Go.RowKit (Below)
open Go.Proofs
def xor1 (n : Int) : Int := w64 (((BitVec.ofInt 64 n) ^^^ (BitVec.ofInt 64 1)).toNat : Int)
theorem xor1_in (n : Int) : In64 (xor1 n) := w64_range _
theorem w64_bv (x : BitVec 64) : w64 (x.toNat : Int) = x.toInt := by
  have h := x.isLt
  rw [BitVec.toInt_eq_toNat_cond]
  by_cases hc : 2 * x.toNat < 2 ^ 64
  · rw [if_pos hc]; exact w64_in (by omega)
  · rw [if_neg hc]
    have e : w64 (x.toNat : Int) = if (x.toNat : Int) % 18446744073709551616 ≥ 9223372036854775808 then (x.toNat : Int) % 18446744073709551616 - 18446744073709551616 else (x.toNat : Int) % 18446744073709551616 := by
      unfold w64 IntKind.wrap
      simp [IntKind.bits, IntKind.signed]
    rw [e]
    split <;> omega
theorem xor1_ne {n : Int} (h : In64 n) : xor1 n ≠ n := by
  unfold xor1
  rw [w64_bv]
  intro e
  have h1 : BitVec.ofInt 64 ((BitVec.ofInt 64 n ^^^ BitVec.ofInt 64 1).toInt) = BitVec.ofInt 64 n := by rw [e]
  rw [BitVec.ofInt_toInt] at h1
  have h2 : BitVec.ofInt 64 n ^^^ (BitVec.ofInt 64 n ^^^ BitVec.ofInt 64 1) = BitVec.ofInt 64 n ^^^ BitVec.ofInt 64 n := by rw [h1]
  rw [← BitVec.xor_assoc, BitVec.xor_self, BitVec.zero_xor] at h2
  exact absurd h2 (by decide)
section
variable {w0 : World} {F M : Mem} {R : Value → Mem → Prop}
theorem bq_xor {t : TypeId} {X Y : Operand} (n : Int) : (std PP w0).bq .xor t X Y (.int .i64 n) (.int .i64 1) = some (.int .i64 (xor1 n)) := rfl
def Cmd.ints (c : Cmd) : List Int := [c.kind, c.queue, c.at_, c.gen, c.time, c.data]
def Cmd.ok (c : Cmd) : Prop := ∀ x ∈ c.ints, In64 x
abbrev tX : TypeId := 29
theorem litF {n : Nat} {parts : List (Nat × Value)} (l : List Int) (h24 : n ≤ 16777216) (hc : Instr.fill (fun k => some (k * 1, 1)) ((Array.range (n * 1)).map ((Value.int .i64 0).cells[· % (Value.int .i64 0).cells.size]!)) parts = some (l.map (Value.int .i64)).toArray) (hn : l.length = n) (hw : ∀ n ∈ l, (Lit.int .i64 n).wf = true)
    {P : Asn} (h : Holds w0 F M P) {K : Value → Mem → Prop} (hK : ∀ M' F' s, Mem.le F F' → Holds w0 F' M' P → RdI w0 F' .i64 s l → K (SV.v s) M') : (std PP w0).bsl 70 n parts K M := by
  refine bsl_e (n := n) Try.underlying70 W.e3 (by omega) hc fun b hb hw2 => ?_
  have h1 := Holds.new h hb hw2 (l.map (Value.int .i64)).toArray.toList 3
  obtain ⟨F3, hle3, hown3, hW3⟩ := Holds.freeze1 h1
  refine hK _ F3 ⟨some ⟨b, 0, none⟩, n, n⟩ hle3 hW3 (RdI.own (o := 0) hown3 hn.symm (Nat.le_refl _) (fun j x hx => ?_) hw (by omega))
  rw [Nat.zero_add]
  simp [hx]
theorem resC {b : Nat} {cs : List Value} {P : Asn} {a0 a1 a2 a3 a4 a5 : Int} (h : Holds w0 F M (star (row1 b cs tCmd) P)) (hcs : cs.length = 6) {K : Value → Mem → Prop} (hK : ∀ M', Holds w0 F M' P → K (.agg #[.int .i64 a0, .int .i64 a1, .int .i64 a2, .int .i64 a3, .int .i64 a4, .int .i64 a5]) M') :
    (std PP w0).st tCmd ⟨b, 0, none⟩ (.agg #[.int .i64 a0, .int .i64 a1, .int .i64 a2, .int .i64 a3, .int .i64 a4, .int .i64 a5]) (fun M14 => ob ((std PP w0).rdv tCmd (.pointer (some ⟨b, 0, none⟩)) M14) fun v15 => K v15 M14) M := by
  refine st_agg (vs := [.int .i64 a0, .int .i64 a1, .int .i64 a2, .int .i64 a3, .int .i64 a4, .int .i64 a5]) W.g27 h.own1 (by simp [hcs]) (by intro v hv; simp only [List.mem_cons, List.not_mem_nil, or_false] at hv; rcases hv with rfl | rfl | rfl | rfl | rfl | rfl <;> rfl) ?_
  have hP2 := h.upd1 (cs' := over cs 0 [.int .i64 a0, .int .i64 a1, .int .i64 a2, .int .i64 a3, .int .i64 a4, .int .i64 a5]) (e' := tCmd)
  have o2 := hP2.own1
  have ho : over cs 0 [.int .i64 a0, .int .i64 a1, .int .i64 a2, .int .i64 a3, .int .i64 a4, .int .i64 a5] = [.int .i64 a0, .int .i64 a1, .int .i64 a2, .int .i64 a3, .int .i64 a4, .int .i64 a5] := by
    match cs, hcs with
    | [_, _, _, _, _, _], _ => rfl
  rw [ho] at o2
  rw [rdv_ptr, ld_agg (cs := [.int .i64 a0, .int .i64 a1, .int .i64 a2, .int .i64 a3, .int .i64 a4, .int .i64 a5]) W.g27 (fun j v hj => by rw [ho, add_eq, rd_own o2, Nat.zero_add]; exact hj), ob_v]
  exact hK _ hP2.right
theorem ok6 {a0 a1 a2 a3 a4 a5 : Int} (h0 : In64 a0) (h1 : In64 a1) (h2 : In64 a2) (h3 : In64 a3) (h4 : In64 a4) (h5 : In64 a5) : Cmd.ok ⟨a0, a1, a2, a3, a4, a5⟩ := by
  intro x hx
  simp only [Cmd.ints, List.mem_cons, List.not_mem_nil, or_false] at hx
  rcases hx with rfl | rfl | rfl | rfl | rfl | rfl <;> assumption
theorem tmod_in {n m : Int} (h : In64 n) (hm : 0 < m) : In64 (Int.tmod n m) := by
  unfold In64 at h ⊢
  have h1 : (Int.tmod n m).natAbs ≤ n.natAbs := by
    rw [Int.natAbs_tmod]; exact Nat.mod_le _ _
  by_cases h0 : 0 ≤ n
  · have := Int.tmod_nonneg m h0
    omega
  · have := Int.tmod_nonneg m (show 0 ≤ -n by omega)
    rw [Int.neg_tmod] at this
    omega
theorem tmod_small {n m : Int} (h : 0 ≤ n) (hm : 0 < m) : 0 ≤ Int.tmod n m ∧ Int.tmod n m < m := ⟨Int.tmod_nonneg m h, Int.tmod_lt_of_pos n hm⟩
theorem Command_ok {x0 x1 x2 x3 x4 x5 x6 x7 x8 x9 x10 : Int} {s : SV} {tl : List Int} (hx : ∀ n ∈ [x0, x1, x2, x3, x4, x5, x6, x7, x8, x9, x10], In64 n) (ht : RdF w0 M 2 s tl) (hsn : s.n ≤ 1000) (hR : ∀ M' (c : Cmd), Mem.le M M' → c.ok → R c.v M') :
    C PP w0 Id.tk_Command #[.agg #[.int .i64 x0, .int .i64 x1, .int .i64 x2, .int .i64 x3, .int .i64 x4, .int .i64 x5, .int .i64 x6, .int .i64 x7, .int .i64 x8, .int .i64 x9, .int .i64 x10], SV.v s] R M := by
  have i0 : In64 x0 := hx x0 (by simp)
  have i1 : In64 x1 := hx x1 (by simp)
  have i2 : In64 x2 := hx x2 (by simp)
  have i3 : In64 x3 := hx x3 (by simp)
  have i4 : In64 x4 := hx x4 (by simp)
  have i5 : In64 x5 := hx x5 (by simp)
  have i6 : In64 x6 := hx x6 (by simp)
  have i7 : In64 x7 := hx x7 (by simp)
  have i8 : In64 x8 := hx x8 (by simp)
  have i9 : In64 x9 := hx x9 (by simp)
  have i10 : In64 x10 := hx x10 (by simp)
  clear hx
  apply tk_Command.go
  intro pts H
  unfold tk_Command.T
  intro b1 hb0 hbw
  have g1 := Holds.new (Holds.emp0 (w0 := w0) (M := M)) hb0 hbw [.int .i64 x0, .int .i64 x1, .int .i64 x2, .int .i64 x3, .int .i64 x4, .int .i64 x5, .int .i64 x6, .int .i64 x7, .int .i64 x8, .int .i64 x9, .int .i64 x10] tX
  generalize M.set b1 _ = M1 at g1 ⊢
  intro b3 hb3 hbw3
  have g2 := Holds.new g1 hb3 hbw3 [.int .i64 0, .int .i64 0, .int .i64 0, .int .i64 0, .int .i64 0, .int .i64 0] tCmd
  change Holds w0 M (M1.set b3 (.row [.int .i64 0, .int .i64 0, .int .i64 0, .int .i64 0, .int .i64 0, .int .i64 0] tCmd)) (star (row1 b3 zR tCmd) (star (row1 b1 [.int .i64 x0, .int .i64 x1, .int .i64 x2, .int .i64 x3, .int .i64 x4, .int .i64 x5, .int .i64 x6, .int .i64 x7, .int .i64 x8, .int .i64 x9, .int .i64 x10] tX) emp)) at g2
  generalize M1.set b3 _ = M2 at g2 ⊢
  have LX : ∀ {M' : Mem}, Own w0 M' b1 [.int .i64 x0, .int .i64 x1, .int .i64 x2, .int .i64 x3, .int .i64 x4, .int .i64 x5, .int .i64 x6, .int .i64 x7, .int .i64 x8, .int .i64 x9, .int .i64 x10] tX → rd w0 M' ⟨b1, 0, none⟩ = some (.int .i64 x0) ∧ rd w0 M' ⟨b1, 1, none⟩ = some (.int .i64 x1) ∧ rd w0 M' ⟨b1, 2, none⟩ = some (.int .i64 x2) ∧ rd w0 M' ⟨b1, 3, none⟩ = some (.int .i64 x3) ∧ rd w0 M' ⟨b1, 4, none⟩ = some (.int .i64 x4) := fun o =>
    ⟨rd_own (o := 0) o, rd_own (o := 1) o, rd_own (o := 2) o, rd_own (o := 3) o, rd_own (o := 4) o⟩
  have o1 := g2.right.own1
  simp only [ld_one W.c3, add_eq, Nat.zero_add, (LX o1).2.2.1, ob_v, shI_v]
  refine ⟨by trivial, by decide, ?_⟩
  rw [bs_beq]
  split
  · -- as it is
    have ldc : (std PP w0).ld tCmd ⟨b1, 5, none⟩ M2 = some (.agg #[.int .i64 x5, .int .i64 x6, .int .i64 x7, .int .i64 x8, .int .i64 x9, .int .i64 x10]) := ld_agg (cs := [.int .i64 x5, .int .i64 x6, .int .i64 x7, .int .i64 x8, .int .i64 x9, .int .i64 x10]) W.g27 (fun j v hj => by
      rw [add_eq, rd_own o1]
      match j, hj with
      | 0, hj => exact hj
      | 1, hj => exact hj
      | 2, hj => exact hj
      | 3, hj => exact hj
      | 4, hj => exact hj
      | 5, hj => exact hj)
    rw [ldc]
    simp only [ob_v, shA_v, shCons_v, shI_v, shNil_v]
    refine resC g2 rfl fun M3 g3 => ?_
    exact hR M3 ⟨x5, x6, x7, x8, x9, x10⟩ g3.fr (ok6 i5 i6 i7 i8 i9 i10)
  · -- of those that were told
    have keyJ1 : ∀ (M' F' : Mem) (b5 : Nat) (c : Cmd), Mem.le M F' → c.ok → Holds w0 F' M' (star (row1 b5 [.int .i64 c.kind, .int .i64 c.queue, .int .i64 c.at_, .int .i64 c.gen, .int .i64 c.time, .int .i64 c.data] tCmd) (star (row1 b3 zR tCmd) (star (row1 b1 [.int .i64 x0, .int .i64 x1, .int .i64 x2, .int .i64 x3, .int .i64 x4, .int .i64 x5, .int .i64 x6, .int .i64 x7, .int .i64 x8, .int .i64 x9, .int .i64 x10] tX) emp))) →
        tk_Command.J1 pts s ⟨b1, 0, none⟩ ⟨b3, 0, none⟩ ⟨b5, 0, none⟩ M' := by
      intro M' F' b5 c hl hc g
      rw [H.J1]
      unfold tk_Command.J1.T
      have fin : ∀ (M4 : Mem) (c : Cmd), c.ok → Holds w0 F' M4 (star (row1 b5 [.int .i64 c.kind, .int .i64 c.queue, .int .i64 c.at_, .int .i64 c.gen, .int .i64 c.time, .int .i64 c.data] tCmd) (star (row1 b3 zR tCmd) (star (row1 b1 [.int .i64 x0, .int .i64 x1, .int .i64 x2, .int .i64 x3, .int .i64 x4, .int .i64 x5, .int .i64 x6, .int .i64 x7, .int .i64 x8, .int .i64 x9, .int .i64 x10] tX) emp))) →
          (ob ((std PP w0).ld tCmd ⟨b5, 0, none⟩ M4) fun v160 => shA v160 fun l161 => shCons l161 fun u162 r163 => shI .i64 u162 fun n164 => shCons r163 fun u165 r166 => shI .i64 u165 fun n167 => shCons r166 fun u168 r169 => shI .i64 u168 fun n170 => shCons r169 fun u171 r172 => shI .i64 u171 fun n173 => shCons r172 fun u174 r175 => shI .i64 u174 fun n176 => shCons r175 fun u177 r178 => shI .i64 u177 fun n179 => shNil r178
            ((std PP w0).st tCmd ⟨b3, 0, none⟩ (.agg #[.int .i64 n164, .int .i64 n167, .int .i64 n170, .int .i64 n173, .int .i64 n176, .int .i64 n179]) (fun M180 => ob ((std PP w0).rdv tCmd (.pointer (some ⟨b3, 0, none⟩)) M180) fun v181 => R v181 M180) M4)) := by
        intro M4 c hc g
        have o5 := g.own1
        rw [ld_agg (cs := c.cells) W.g27 (fun j v hj => by rw [add_eq, rd_own o5, Nat.zero_add]; exact hj)]
        unfold Cmd.cells
        simp only [ob_v, shA_v, shCons_v, shI_v, shNil_v]
        refine resC g.rot rfl fun M5 g5 => ?_
        exact hR M5 c (Mem.le_trans hl g5.fr) hc
      rw [bs_decide]
      split
      · rename_i hpos
        simp only [ld_one W.c3, add_eq, Nat.zero_add, (LX g.right.right.own1).2.2.1, ob_v, shI_v]
        rw [w64_in (by omega)]
        refine Within_ok i2 (by omega) (by omega) (by omega) (by omega) fun y y1 y2 => ?_
        rw [shI_v]
        have hyn : y.toNat < s.n := by omega
        obtain ⟨u, hu, iu⟩ := ht.get hyn (f := 0) (by decide)
        obtain ⟨v, hv, iv⟩ := ht.get hyn (f := 1) (by decide)
        refine rdfA (cs := [u, v]) W.g25 ht (Mem.le_trans hl g.fr) y.toNat (by omega) hyn (by show 0 < 2; decide) (fun f x hf => ?_) ?_
        · match f, hf with
          | 0, hf => simp at hf; subst hf; exact hu
          | 1, hf => simp at hf; subst hf; exact hv
        · simp only [List.map_cons, List.map_nil, shA_v, shCons_v, shI_v, shNil_v]
          refine st_agg (vs := [.int .i64 u, .int .i64 v]) W.g25 g.own1 (by simp) (by intro v hv; simp only [List.mem_cons, List.not_mem_nil, or_false] at hv; rcases hv with rfl | rfl <;> rfl) ?_
          have g3 := g.upd1 (cs' := over [.int .i64 c.kind, .int .i64 c.queue, .int .i64 c.at_, .int .i64 c.gen, .int .i64 c.time, .int .i64 c.data] 2 [.int .i64 u, .int .i64 v]) (e' := tCmd)
          refine fin _ ⟨c.kind, c.queue, u, v, c.time, c.data⟩ (ok6 (hc _ (by simp [Cmd.ints])) (hc _ (by simp [Cmd.ints])) iu iv (hc _ (by simp [Cmd.ints])) (hc _ (by simp [Cmd.ints]))) ?_
          exact g3
      · exact fin M' c hc g
    have tail : ∀ (M' F' : Mem) (b5 : Nat) (k q : Int), Mem.le M F' → In64 k → In64 q → Holds w0 F' M' (star (row1 b5 zR tCmd) (star (row1 b3 zR tCmd) (star (row1 b1 [.int .i64 x0, .int .i64 x1, .int .i64 x2, .int .i64 x3, .int .i64 x4, .int .i64 x5, .int .i64 x6, .int .i64 x7, .int .i64 x8, .int .i64 x9, .int .i64 x10] tX) emp))) →
        (std PP w0).st tCmd ⟨b5, 0, none⟩ (.agg #[.int .i64 k, .int .i64 q, .int .i64 0, .int .i64 0, .int .i64 x4, .int .i64 x3]) (fun M71 => ob (rd w0 M71 ⟨b1, 3, none⟩) fun v72 => shI .i64 v72 fun n73 => (True ∧ (4 : Int) ≠ 0 ∧ bs (((Int.tmod n73 4) != 0)) (ob (rd w0 M71 ⟨b5, 4, none⟩) fun v74 => shI .i64 v74 fun n75 => (True ∧ (30 : Int) ≠ 0 ∧ (std PP w0).st 2 ⟨b5, 4, none⟩ (.int .i64 (Int.tmod n75 30)) (fun M76 => tk_Command.J1 pts s ⟨b1, 0, none⟩ ⟨b3, 0, none⟩ ⟨b5, 0, none⟩ M76) M71)) (tk_Command.J1 pts s ⟨b1, 0, none⟩ ⟨b3, 0, none⟩ ⟨b5, 0, none⟩ M71))) M' := by
      intro M' F' b5 k q hl hk hq g
      refine st_agg (vs := [.int .i64 k, .int .i64 q, .int .i64 0, .int .i64 0, .int .i64 x4, .int .i64 x3]) W.g27 g.own1 (by simp) (by intro v hv; simp only [List.mem_cons, List.not_mem_nil, or_false] at hv; rcases hv with rfl | rfl | rfl | rfl | rfl | rfl <;> rfl) ?_
      have g3 : Holds w0 F' (M'.set b5 (.row (over zR 0 [.int .i64 k, .int .i64 q, .int .i64 0, .int .i64 0, .int .i64 x4, .int .i64 x3]) tCmd)) (star (row1 b5 [.int .i64 k, .int .i64 q, .int .i64 0, .int .i64 0, .int .i64 x4, .int .i64 x3] tCmd) _) := g.upd1 (cs' := over zR 0 [.int .i64 k, .int .i64 q, .int .i64 0, .int .i64 0, .int .i64 x4, .int .i64 x3]) (e' := tCmd)
      generalize M'.set b5 _ = M3 at g3 ⊢
      have e4 : rd w0 M3 ⟨b5, 4, none⟩ = some (.int .i64 x4) := rd_own (o := 4) g3.own1
      simp only [(LX g3.right.right.own1).2.2.2.1, e4, ob_v, shI_v]
      refine ⟨by trivial, by decide, ?_⟩
      have z64 : In64 0 := by unfold In64; omega
      rw [bs_bne]
      split
      · exact keyJ1 M3 F' b5 ⟨k, q, 0, 0, x4, x3⟩ hl (ok6 hk hq z64 z64 i4 i3) g3
      · refine ⟨by trivial, by decide, ?_⟩
        refine st_one W.c2 g3.own1 (by simp) rfl rfl ?_
        have g4 := g3.upd1 (cs' := [.int .i64 k, .int .i64 q, .int .i64 0, .int .i64 0, .int .i64 (Int.tmod x4 30), .int .i64 x3]) (e' := tCmd)
        exact keyJ1 _ F' b5 ⟨k, q, 0, 0, Int.tmod x4 30, x3⟩ hl (ok6 hk hq z64 z64 (tmod_in i4 (by decide)) i3) g4
    have hbC : ∀ k q : Int, (std PP w0).bld tCmd [(0, .int .i64 k), (1, .int .i64 q), (4, .int .i64 x3), (3, .int .i64 x4)] = some (.agg #[.int .i64 k, .int .i64 q, .int .i64 0, .int .i64 0, .int .i64 x4, .int .i64 x3]) := fun k q => by kernel_rfl
    refine litF [1, 1, 1, 2, 3, 4, 5, 5, 5, 6, 7] (by decide) (by kernel_rfl) rfl (wf_all (by intro x hx; simp at hx; unfold In64; omega)) g2 fun M3 F3 s31 l3 g3 hk => ?_
    rw [shS_sv]
    have p1 := g3.right.own1
    have kin : ∀ y : Int, 0 ≤ y → ∃ k, In64 k ∧ ([1, 1, 1, 2, 3, 4, 5, 5, 5, 6, 7] : List Int)[(Int.tmod y 11).toNat]? = some k := fun y hy => by
      obtain ⟨t0, t1⟩ := tmod_small hy (show (0 : Int) < 11 by decide)
      have hlt : (Int.tmod y 11).toNat < ([1, 1, 1, 2, 3, 4, 5, 5, 5, 6, 7] : List Int).length := by simp only [List.length_cons, List.length_nil]; omega
      refine ⟨_, ?_, List.getElem?_eq_getElem hlt⟩
      have := List.getElem_mem hlt
      generalize ([1, 1, 1, 2, 3, 4, 5, 5, 5, 6, 7] : List Int)[(Int.tmod y 11).toNat] = k at this
      simp at this
      unfold In64; omega
    -- what is read of the numbers of commands, and stays
    have rdk : ∀ {M' F' : Mem} {y k : Int} {P : Asn}, 0 ≤ y → Mem.le F3 F' → Holds w0 F' M' P → ([1, 1, 1, 2, 3, 4, 5, 5, 5, 6, 7] : List Int)[(Int.tmod y 11).toNat]? = some k → ∃ a, s31.a = some a ∧ ∀ M2, Mem.le F' M2 → rd w0 M2 (a.add ((Int.tmod y 11).toNat * 1)) = some (.int .i64 k) := fun {M' F' y k P} hy hl g hk2 => by
      have hlt := (List.getElem?_eq_some_iff.1 hk2).1
      obtain ⟨a, ha, hr⟩ := hk.at hlt
      refine ⟨a, ha, fun M2 hM2 => ?_⟩
      have := hr M2 (Mem.le_trans hl hM2)
      rw [Nat.mul_one, this]
      rw [List.getElem?_eq_getElem hlt] at hk2
      rw [Option.some.inj hk2]
    have hsl : s31.n = 11 := hk.len
    simp only [ld_one W.c3, ld_one W.c2, add_eq, Nat.zero_add, (LX p1).1, (LX p1).2.1, (LX p1).2.2.2.1, (LX p1).2.2.2.2, ob_v, shI_v]
    have hq2 : ∀ y : Int, 0 ≤ y → In64 (Int.tmod y 2) := fun y hy => by
      obtain ⟨t0, t1⟩ := tmod_small hy (show (0 : Int) < 2 by decide)
      unfold In64; omega
    have hMF : Mem.le M F3 := l3
    refine ⟨?_, ?_⟩
    · refine Within_ok i0 (by omega) (by omega) (by omega) (by omega) fun y y1 y2 => ?_
      rw [shI_v]
      refine ⟨by trivial, by decide, ?_⟩
      obtain ⟨k, ik, hkk⟩ := kin y y1
      obtain ⟨a, ha, hra⟩ := rdk y1 (Mem.le_refl _) g3 hkk
      obtain ⟨t0, t1⟩ := tmod_small y1 (show (0 : Int) < 11 by decide)
      simp only [ha, nc_v, hra M3 g3.fr, ob_v, shI_v]
      refine ⟨⟨t0, by omega⟩, (LX p1).2.1, (LX p1).2.2.2.1, (LX p1).2.2.2.2, ?_, ?_⟩
      · refine Within_ok i1 (by omega) (by omega) (by omega) (by omega) fun z z1 z2 => ?_
        rw [shI_v]
        refine ⟨by trivial, by decide, ?_⟩
        rw [hbC]
        simp only [ob_v, shA_v, shCons_v, shI_v, shNil_v]
        refine ⟨hra M3 g3.fr, (LX p1).2.2.2.1, (LX p1).2.2.2.2, ?_⟩
        intro b5 hb5 hbw5
        have g4 := Holds.new g3 hb5 hbw5 zR tCmd
        change Holds w0 F3 (M3.set b5 (.row [.int .i64 0, .int .i64 0, .int .i64 0, .int .i64 0, .int .i64 0, .int .i64 0] tCmd)) _ at g4
        generalize M3.set b5 _ = M4 at g4 ⊢
        have q1 := g4.right.right.own1
        refine ⟨hra M4 g4.fr, (LX q1).2.2.2.1, (LX q1).2.2.2.2, ?_⟩
        exact tail M4 F3 b5 k _ hMF ik (hq2 z z1) g4
      · intro b5 hb5 hbw5
        have g4 := Holds.new g3 hb5 hbw5 zR tCmd
        change Holds w0 F3 (M3.set b5 (.row [.int .i64 0, .int .i64 0, .int .i64 0, .int .i64 0, .int .i64 0, .int .i64 0] tCmd)) _ at g4
        generalize M3.set b5 _ = M4 at g4 ⊢
        have q1 := g4.right.right.own1
        refine ⟨hra M4 g4.fr, (LX q1).2.1, (LX q1).2.2.2.1, (LX q1).2.2.2.2, ?_⟩
        refine Within_ok i1 (by omega) (by omega) (by omega) (by omega) fun z z1 z2 => ?_
        rw [shI_v]
        refine ⟨by trivial, by decide, ?_⟩
        rw [hbC]
        simp only [ob_v, shA_v, shCons_v, shI_v, shNil_v]
        refine ⟨hra M4 g4.fr, (LX q1).2.2.2.1, (LX q1).2.2.2.2, ?_⟩
        exact tail M4 F3 b5 k _ hMF ik (hq2 z z1) g4
    · intro b5 hb5 hbw5
      have g4 := Holds.new g3 hb5 hbw5 zR tCmd
      change Holds w0 F3 (M3.set b5 (.row [.int .i64 0, .int .i64 0, .int .i64 0, .int .i64 0, .int .i64 0, .int .i64 0] tCmd)) _ at g4
      generalize M3.set b5 _ = M4 at g4 ⊢
      have q1 := g4.right.right.own1
      refine ⟨(LX q1).1, (LX q1).2.1, (LX q1).2.2.2.1, (LX q1).2.2.2.2, ?_⟩
      refine Within_ok i0 (by omega) (by omega) (by omega) (by omega) fun y y1 y2 => ?_
      rw [shI_v]
      refine ⟨by trivial, by decide, ?_⟩
      obtain ⟨k, ik, hkk⟩ := kin y y1
      obtain ⟨a, ha, hra⟩ := rdk y1 (Mem.le_refl _) g4 hkk
      obtain ⟨t0, t1⟩ := tmod_small y1 (show (0 : Int) < 11 by decide)
      simp only [ha, nc_v, hra M4 g4.fr, ob_v, shI_v]
      refine ⟨⟨t0, by omega⟩, (LX q1).2.1, (LX q1).2.2.2.1, (LX q1).2.2.2.2, ?_⟩
      refine Within_ok i1 (by omega) (by omega) (by omega) (by omega) fun z z1 z2 => ?_
      rw [shI_v]
      refine ⟨by trivial, by decide, ?_⟩
      rw [hbC]
      simp only [ob_v, shA_v, shCons_v, shI_v, shNil_v]
      refine ⟨hra M4 g4.fr, (LX q1).2.2.2.1, (LX q1).2.2.2.2, ?_⟩
      exact tail M4 F3 b5 k _ hMF ik (hq2 z z1) g4
end
end Go.Proofs.Ytedofpnjmnkedaa.HL
set_option linter.unusedVariables false
set_option linter.unusedSimpArgs false
set_option maxRecDepth 100000
namespace Go.Proofs.Ytedofpnjmnkedaa.HL
open Go.RowKit (Below)
open Go.Proofs
def Rep.ints (r : Rep) : List Int := [r.why, r.at_, r.gen, r.time, r.data, r.n]
def Rep.ok (r : Rep) : Prop := ∀ x ∈ r.ints, In64 x
def Evt.ok (e : Evt) : Prop := ∀ x ∈ e.ints, In64 x
structure JbOk (j : Jb) : Prop where
  k : In64 j.key
  d : In64 j.data
  a : In64 j.at_
  g : In64 j.gen
structure KOk (d : D22) : Prop where
  now : In64 d.now
  l : ∀ j ∈ d.l, JbOk j
theorem z64 : In64 0 := by unfold In64; omega
theorem rep6 {a0 a1 a2 a3 a4 a5 : Int} (h0 : In64 a0) (h1 : In64 a1) (h2 : In64 a2) (h3 : In64 a3) (h4 : In64 a4) (h5 : In64 a5) : Rep.ok ⟨a0, a1, a2, a3, a4, a5⟩ := by
  intro x hx
  simp only [Rep.ints, List.mem_cons, List.not_mem_nil, or_false] at hx
  rcases hx with rfl | rfl | rfl | rfl | rfl | rfl <;> assumption
theorem rep1 {w : Int} (h : In64 w) : Rep.ok { why := w } := rep6 h z64 z64 z64 z64 z64
theorem ev14 {c : Cmd} {r : Rep} {n s : Int} (hc : c.ok) (hr : r.ok) (hn : In64 n) (hs : In64 s) : Evt.ok ⟨c, r, n, s⟩ := by
  intro x hx
  have : x ∈ c.ints ++ (r.ints ++ [n, s]) := hx
  rcases List.mem_append.1 this with h | h
  · exact hc x h
  · rcases List.mem_append.1 h with h | h
    · exact hr x h
    · simp at h; rcases h with rfl | rfl <;> assumption
theorem KOk.new (n : Int) : KOk (D22.new n) := ⟨z64, fun j hj => (by cases hj)⟩
theorem KOk.out {d : D22} (h : KOk d) (k : Nat) : KOk (d.out k) := by
  unfold D22.out
  cases hk : d.l[k]? with
  | none => exact h
  | some j => exact ⟨h.now, fun x hx => h.l x (List.mem_of_mem_eraseIdx hx)⟩
theorem do22_in {jobs : Int} {d : D22} {st : St} (hr : RelD jobs d st) (hj : jobs ≤ 100) (hl : st.l.length ≤ 1000) (h : KOk d) {c : Cmd} (hc : c.ok) : (do22 d c).2.ok ∧ KOk (do22 d c).1 := by
  have hok := hr.ok hj hl
  have ct : In64 c.time := hc _ (by simp [Cmd.ints])
  have cd : In64 c.data := hc _ (by simp [Cmd.ints])
  have s64 : ∀ n : Int, 0 ≤ n → n ≤ 100000000 → In64 n := fun n h1 h2 => by unfold In64; omega
  have h4 := hr.r4
  have h6 := hr.r6
  have hcount : ∀ q, In64 ((countD q d.l : Nat) : Int) := fun q => by
    have : countD q d.l ≤ d.l.length := List.countP_le_length
    exact s64 _ (by omega) (by omega)
  by_cases hb : badQ c
  · rw [do22_bad hb]; exact ⟨rep1 (s64 _ (by decide) (by decide)), h⟩
  · by_cases k1 : c.kind = 1
    · rw [do22_1 hb k1]
      cases ha : d.pool.at_ with
      | none => exact ⟨rep1 (s64 _ (by decide) (by decide)), h⟩
      | some a =>
        obtain ⟨a1, a2, a3, a4⟩ := hok.pl.take_lt ha
        have hgl : d.pool.grow.gens.length ≤ d.pool.gens.length + 1 := by
          unfold Pl.grow
          split <;> simp
        have hg : 0 ≤ d.pool.gen a ∧ d.pool.gen a ≤ 1000001 := by
          unfold Pl.gen
          rw [List.getD_eq_getElem?_getD, List.getElem?_eq_getElem a1]
          simp only [Option.getD_some]
          have hm := List.getElem_mem a1
          generalize d.pool.grow.gens[a] = g at hm
          have : 0 ≤ g ∧ g ≤ 1000000 := by
            unfold Pl.grow at hm
            split at hm
            · exact hok.gv g hm
            · simp only at hm
              rcases List.mem_append.1 hm with hm | hm
              · exact hok.gv g hm
              · simp at hm; omega
          omega
        have ia : In64 (a : Int) := s64 _ (by omega) (by omega)
        have ig : In64 (d.pool.gen a) := s64 _ (by omega) (by omega)
        refine ⟨rep6 z64 ia ig ct cd z64, h.now, fun j hj => ?_⟩
        rcases List.mem_append.1 hj with hj | hj
        · exact h.l j hj
        · simp at hj; subst hj
          exact ⟨ct, cd, ia, ig⟩
    · by_cases k2 : c.kind = 2 ∨ c.kind = 3
      · rw [do22_23 k2]
        have hlook : In64 (d.pool.look c.at_ c.gen) := by
          unfold Pl.look
          split
          · exact s64 _ (by decide) (by decide)
          · split
            · exact s64 _ (by decide) (by decide)
            · exact z64
        split
        · exact ⟨rep1 hlook, h⟩
        · split
          · exact ⟨rep1 z64, h⟩
          · split
            · exact ⟨rep1 z64, h⟩
            · rename_i j hjj
              have jo := h.l j (List.mem_of_getElem? hjj)
              split
              · exact ⟨rep6 z64 z64 z64 jo.k jo.d z64, h.out _⟩
              · split
                · exact ⟨rep1 (s64 _ (by decide) (by decide)), h⟩
                · refine ⟨rep6 z64 z64 z64 ct jo.d z64, h.now, fun x hx => ?_⟩
                  rcases List.mem_or_eq_of_mem_set hx with hx | rfl
                  · exact h.l x hx
                  · exact ⟨ct, jo.d, jo.a, jo.g⟩
      · by_cases k4 : c.kind = 4
        · rw [do22_4 k4]
          split
          · exact ⟨rep1 (s64 _ (by decide) (by decide)), h⟩
          · exact ⟨rep6 z64 z64 z64 addc_in z64 z64, addc_in, h.l⟩
        · by_cases k5 : c.kind = 5
          · rw [do22_5 hb k5]
            split
            · exact ⟨rep1 (s64 _ (by decide) (by decide)), h⟩
            · split
              · exact ⟨rep1 (s64 _ (by decide) (by decide)), h⟩
              · split
                · exact ⟨rep1 z64, h⟩
                · rename_i j hjj
                  have jo := h.l j (List.mem_of_getElem? hjj)
                  exact ⟨rep6 z64 jo.a jo.g jo.k jo.d z64, h.out _⟩
          · by_cases k6 : c.kind = 6
            · rw [do22_6 hb k6]
              split
              · exact ⟨rep1 (s64 _ (by decide) (by decide)), h⟩
              · refine ⟨rep6 z64 z64 z64 z64 z64 (hcount _), h.now, fun x hx => ?_⟩
                obtain ⟨y, hy, rfl⟩ := List.mem_map.1 hx
                have jo := h.l y hy
                split
                · exact ⟨jo.k, jo.d, jo.a, jo.g⟩
                · exact jo
            · by_cases k7 : c.kind = 7
              · rw [do22_7 hb k7]
                exact ⟨rep6 z64 z64 z64 z64 z64 (hcount _), h⟩
              · rw [do22_8 (by omega)]
                exact ⟨rep1 (s64 _ (by decide) (by decide)), h⟩
def Fine (jobs : Int) : St → List Evt → St → Prop
  | st, [], st' => st = st'
  | st, e :: es, st' => ∃ st1, stepA jobs st e.c e.r = some (st1, e.r) ∧ e.now = st1.now ∧ 0 ≤ e.steps ∧ e.steps ≤ 90 ∧ Fine jobs st1 es st'
theorem Fine.app {jobs : Int} : ∀ {es fs : List Evt} {st st1 st2 : St}, Fine jobs st es st1 → Fine jobs st1 fs st2 → Fine jobs st (es ++ fs) st2
  | [], fs, st, st1, st2, h, g => by
    have : st = st1 := h
    rw [this]; exact g
  | e :: es, fs, st, st1, st2, h, g => by
    obtain ⟨s, h1, h2, h3, h4, h5⟩ := h
    exact ⟨s, h1, h2, h3, h4, h5.app g⟩
theorem Fine.whyA {jobs bud : Int} (hb : 90 ≤ bud) {st st1 : St} {e : Evt} (h1 : stepA jobs st e.c e.r = some (st1, e.r)) (h2 : e.now = st1.now) (h3 : 0 ≤ e.steps) (h4 : e.steps ≤ 90) : whyA jobs bud st e = (0, st1) := by
  rw [whyA_some h1, if_neg (by simp), if_neg (by simp [h2]), if_neg (by omega)]
theorem Fine.ckA {jobs bud : Int} (hb : 90 ≤ bud) : ∀ {es : List Evt} {st st' : St} {i : Int}, Fine jobs st es st' → ckA jobs bud i st es = (-1, 0, st')
  | [], st, st', i, h => by
    have : st = st' := h
    rw [this]; rfl
  | e :: es, st, st', i, h => by
    obtain ⟨s, h1, h2, h3, h4, h5⟩ := h
    have hw := Fine.whyA hb h1 h2 h3 h4
    rw [ckA_cons0 (by rw [hw]), hw]
    exact Fine.ckA hb h5
section
variable {w0 : World} {F M : Mem} {R : Value → Mem → Prop}
def EvC (e : Evt) : List Value := [.int .i64 e.c.kind, .int .i64 e.c.queue, .int .i64 e.c.at_, .int .i64 e.c.gen, .int .i64 e.c.time, .int .i64 e.c.data, .int .i64 e.r.why, .int .i64 e.r.at_, .int .i64 e.r.gen, .int .i64 e.r.time, .int .i64 e.r.data, .int .i64 e.r.n, .int .i64 e.now, .int .i64 e.steps]
theorem EvC_one (e : Evt) : ∀ v ∈ EvC e, onecell v = true := by
  intro v hv
  have : EvC e = vI e.ints := rfl
  rw [this] at hv
  exact vI_one _ v hv
theorem evI_snoc (l : List Evt) (e : Evt) : vI (evI l) ++ EvC e = vI (evI (l ++ [e])) := by
  rw [evI_app]
  unfold vI
  rw [List.map_append]
  rw [show (evI [e]).map (Value.int .i64) = EvC e from rfl]
theorem newEv {P : Asn} (h : Holds w0 F M P) (e : Evt) {K : Value → Mem → Prop} (hK : ∀ M' s', Mem.le M M' → Holds w0 F M' (star (SlKA 14 s' (EvC e)) P) → K s'.v M') :
    (std PP w0).bsl 37 1 [(0, .agg #[.int .i64 e.c.kind, .int .i64 e.c.queue, .int .i64 e.c.at_, .int .i64 e.c.gen, .int .i64 e.c.time, .int .i64 e.c.data, .int .i64 e.r.why, .int .i64 e.r.at_, .int .i64 e.r.gen, .int .i64 e.r.time, .int .i64 e.r.data, .int .i64 e.r.n, .int .i64 e.now, .int .i64 e.steps])] K M := by
  refine bsl_e (n := 1) (cells := #[.int .i64 e.c.kind, .int .i64 e.c.queue, .int .i64 e.c.at_, .int .i64 e.c.gen, .int .i64 e.c.time, .int .i64 e.c.data, .int .i64 e.r.why, .int .i64 e.r.at_, .int .i64 e.r.gen, .int .i64 e.r.time, .int .i64 e.r.data, .int .i64 e.r.n, .int .i64 e.now, .int .i64 e.steps]) Try.underlying37 W.e34 (by decide) (by kernel_rfl) fun b hb hw => ?_
  have l1 : Mem.le M (M.set b (.row (#[.int .i64 e.c.kind, .int .i64 e.c.queue, .int .i64 e.c.at_, .int .i64 e.c.gen, .int .i64 e.c.time, .int .i64 e.c.data, .int .i64 e.r.why, .int .i64 e.r.at_, .int .i64 e.r.gen, .int .i64 e.r.time, .int .i64 e.r.data, .int .i64 e.r.n, .int .i64 e.now, .int .i64 e.steps] : Array Value).toList tEv)) := Mem.le_set _ hb
  exact hK _ ⟨some ⟨b, 0, none⟩, 1, 1⟩ l1 (Holds.newSlk h l1 (SlK.new (n := 1) hb (Own.new hw) rfl))
structure DrawAt (w0 : World) (M : Mem) (s : SV) (i : Nat) (g : Nat → Int) : Prop where
  a : ∃ a, s.a = some a ∧ ∀ M2, Mem.le M M2 → ∀ f, f < 27 → rd w0 M2 (a.add (i * 27 + f)) = some (.int .i64 (g f))
  w : ∀ f, f < 27 → In64 (g f)
theorem RdF.draw {s : SV} {l : List Int} (h : RdF w0 M 27 s l) {i : Nat} (hi : i < s.n) : DrawAt w0 M s i fun f => l.getD (i * 27 + f) 0 := by
  have g : ∀ f, f < 27 → l[i * 27 + f]? = some (l.getD (i * 27 + f) 0) := fun f hf => by
    obtain ⟨x, hx, _⟩ := h.get hi hf
    rw [List.getD_eq_getElem?_getD, hx]; rfl
  obtain ⟨a, ha, _⟩ := h.cell _ _ (g 0 (by decide))
  refine ⟨⟨a, ha, fun M2 hM2 f hf => ?_⟩, fun f hf => ?_⟩
  · obtain ⟨a', ha', hr⟩ := h.cell _ _ (g f hf)
    rw [ha] at ha'; cases ha'
    exact hr M2 hM2
  · obtain ⟨x, hx, hin⟩ := h.get hi hf
    have := g f hf
    rw [hx] at this
    rw [← Option.some.inj this]; exact hin
end
end Go.Proofs.Ytedofpnjmnkedaa.HL
set_option linter.unusedVariables false
set_option linter.unusedSimpArgs false
set_option maxRecDepth 100000
set_option maxHeartbeats 1000000
namespace Go.Proofs.Ytedofpnjmnkedaa.HL
open Go.RowKit (Below)
open Go.Proofs
section
variable {w0 : World} {F M : Mem} {R : Value → Mem → Prop}
theorem bEv (c : Cmd) (r : Rep) (n s : Int) : (std PP w0).bld tEv [(0, .agg #[.int .i64 c.kind, .int .i64 c.queue, .int .i64 c.at_, .int .i64 c.gen, .int .i64 c.time, .int .i64 c.data]), (1, .agg #[.int .i64 r.why, .int .i64 r.at_, .int .i64 r.gen, .int .i64 r.time, .int .i64 r.data, .int .i64 r.n]), (2, .int .i64 n), (3, .int .i64 s)] = some (.agg #[.int .i64 c.kind, .int .i64 c.queue, .int .i64 c.at_, .int .i64 c.gen, .int .i64 c.time, .int .i64 c.data, .int .i64 r.why, .int .i64 r.at_, .int .i64 r.gen, .int .i64 r.time, .int .i64 r.data, .int .i64 r.n, .int .i64 n, .int .i64 s]) := by kernel_rfl
theorem made_ok {n most : Int} {s : SV} {tame : Prop} (hn1 : 1 ≤ n) (hn2 : n ≤ 20) (hm : most ≤ 50) (hs : ∀ i, i < s.n → ∃ g, DrawAt w0 M s i g ∧ (tame → g 11 = 0))
    (hR : ∀ M' o evs, Mem.le M M' → RdF w0 M' 14 o (evI evs) → evs.length ≤ 50 → (tame → ∃ st', Fine n ⟨0, []⟩ evs st') → R (SV.v o) M') :
    C PP w0 Id.wJ_made #[.int .i64 n, SV.v s, .int .i64 most] R M := by
  apply wJ_made.go
  intro pts H
  unfold wJ_made.T
  refine dNew_ok (Holds.emp0 (w0 := w0) (M := M)) (by omega) (by omega) fun M1 d g1 => ?_
  rw [shP_v]
  have endR : ∀ (M' : Mem) (out told : SV) (evs : List Evt) (tl : List Int) (x : D22) (st : St), (∀ e ∈ evs, e.ok) → evs.length ≤ 50 → (tame → Fine n ⟨0, []⟩ evs st) →
      Holds w0 M M' (star (DispA d x) (star (SlKA 14 out (vI (evI evs))) (star (SlKA 2 told (vI tl)) emp))) → R (SV.v out) M' := by
    intro M' out told evs tl x st hok hlen hf g
    refine hR M' out evs g.fr ?_ hlen (fun ht => ⟨st, hf ht⟩)
    refine Holds.rdF (by decide) g.right (fun y hy => ?_) ?_
    · obtain ⟨e, he, hye⟩ := List.mem_flatMap.1 hy
      exact wf64 (hok e he y hye)
    · have := (slkCells g.right).2.1
      unfold vI at this
      rw [List.length_map, evI_len] at this
      omega
  have key : ∀ (k i : Nat) (M' : Mem) (out told : SV) (evs : List Evt) (tl : List Int) (x : D22) (st : St), s.n < i + k ∨ most < ((i + k : Nat) : Int) → i ≤ 50 → evs.length = i → st.l.length ≤ i → told.n ≤ i → (∀ e ∈ evs, e.ok) → (∀ y ∈ tl, In64 y) → RelD n x st → KOk x → (tame → Fine n ⟨0, []⟩ evs st) →
      Holds w0 M M' (star (DispA d x) (star (SlKA 14 out (vI (evI evs))) (star (SlKA 2 told (vI tl)) emp))) → (k ≠ 0) → wJ_made.L1 pts k s most (some ⟨d, 0, none⟩) out told (i : Int) M' := by
    intro k
    induction k with
    | zero => intro i M' out told evs tl x st _ _ _ _ _ _ _ _ _ _ _ hk; exact absurd rfl hk
    | succ k ih =>
      intro i M' out told evs tl x st hk hi50 hel hsl htn hok htok hrel hkok hfine g _
      rw [H.L1]
      unfold wJ_made.L1.T
      rw [bs_decide]
      split
      · rename_i hin
        rw [bs_decide]
        split
        · rename_i him
          rw [H.J2]
          unfold wJ_made.J2.T
          obtain ⟨gd, hd, htm⟩ := hs i (by omega)
          obtain ⟨a, ha, hra⟩ := hd.a
          have hw := hd.w
          have hbd : 0 ≤ (i : Int) ∧ (i : Int) < ((s.n : Nat) : Int) := ⟨by omega, by omega⟩
          have ldD : (std PP w0).ld tX (a.add (i * 27)) M' = some (.agg #[.int .i64 (gd 0), .int .i64 (gd 1), .int .i64 (gd 2), .int .i64 (gd 3), .int .i64 (gd 4), .int .i64 (gd 5), .int .i64 (gd 6), .int .i64 (gd 7), .int .i64 (gd 8), .int .i64 (gd 9), .int .i64 (gd 10)]) := ld_agg (cs := [.int .i64 (gd 0), .int .i64 (gd 1), .int .i64 (gd 2), .int .i64 (gd 3), .int .i64 (gd 4), .int .i64 (gd 5), .int .i64 (gd 6), .int .i64 (gd 7), .int .i64 (gd 8), .int .i64 (gd 9), .int .i64 (gd 10)]) W.g29 (fun j v hj => by
            rw [add_add]
            match j, hj with
            | 0, hj => cases hj; exact hra M' g.fr 0 (by decide)
            | 1, hj => cases hj; exact hra M' g.fr 1 (by decide)
            | 2, hj => cases hj; exact hra M' g.fr 2 (by decide)
            | 3, hj => cases hj; exact hra M' g.fr 3 (by decide)
            | 4, hj => cases hj; exact hra M' g.fr 4 (by decide)
            | 5, hj => cases hj; exact hra M' g.fr 5 (by decide)
            | 6, hj => cases hj; exact hra M' g.fr 6 (by decide)
            | 7, hj => cases hj; exact hra M' g.fr 7 (by decide)
            | 8, hj => cases hj; exact hra M' g.fr 8 (by decide)
            | 9, hj => cases hj; exact hra M' g.fr 9 (by decide)
            | 10, hj => cases hj; exact hra M' g.fr 10 (by decide))
          simp only [ha, nc_v, Int.toNat_natCast, ldD, ob_v, shA_v, shCons_v, shI_v, shNil_v]
          refine ⟨hbd, ?_⟩
          have htr : RdF w0 M' 2 told tl := Holds.rdF (by decide) g.right.right (wf_all htok) (by omega)
          refine Command_ok (fun y hy => ?_) htr (by omega) fun M2 c l2 hc => ?_
          · simp only [List.mem_cons, List.not_mem_nil, or_false] at hy
            rcases hy with rfl | rfl | rfl | rfl | rfl | rfl | rfl | rfl | rfl | rfl | rfl <;> exact hw _ (by decide)
          have g2 := g.le l2
          unfold Cmd.v
          simp only [shA_v, shCons_v, shI_v, shNil_v]
          intro b62 hb62 hbw62
          have g3 := Holds.new g2 hb62 hbw62 zR tCmd
          change Holds w0 M (M2.set b62 (.row [.int .i64 0, .int .i64 0, .int .i64 0, .int .i64 0, .int .i64 0, .int .i64 0] tCmd)) (star (row1 b62 zR tCmd) _) at g3
          generalize M2.set b62 _ = M3 at g3 ⊢
          refine st_agg (vs := c.cells) W.g27 g3.own1 (by simp [Cmd.cells]) (by intro v hv; simp only [Cmd.cells, List.mem_cons, List.not_mem_nil, or_false] at hv; rcases hv with rfl | rfl | rfl | rfl | rfl | rfl <;> rfl) ?_
          have g4 := g3.upd1 (cs' := over zR 0 c.cells) (e' := tCmd)
          rw [show over zR 0 c.cells = c.cells from rfl] at g4 ⊢
          generalize M3.set b62 _ = M4 at g4 ⊢
          have LC : ∀ {M' : Mem}, Own w0 M' b62 c.cells tCmd → (std PP w0).ld tCmd ⟨b62, 0, none⟩ M' = some (.agg #[.int .i64 c.kind, .int .i64 c.queue, .int .i64 c.at_, .int .i64 c.gen, .int .i64 c.time, .int .i64 c.data]) := fun o => ld_agg (cs := c.cells) W.g27 (fun j v hj => by rw [add_eq, rd_own o, Nat.zero_add]; exact hj)
          rw [LC g4.own1]
          simp only [ob_v, shA_v, shCons_v, shI_v, shNil_v]
          have hdok := hrel.ok (by omega) (by omega)
          obtain ⟨st', hstep, hrel'⟩ := hrel.step (c := c)
          obtain ⟨hrok, hkok'⟩ := do22_in hrel (by omega) (by omega) hkok hc
          refine dDo_ok (c := c) g4.rot hdok hkok.now (hc _ (by simp [Cmd.ints])) fun M5 g5 => ?_
          have hsl' := stepA_len hstep
          generalize (do22 x c).2 = r at hstep hrok ⊢
          generalize (do22 x c).1 = x' at hrel' hkok' g5
          unfold Rep.v
          simp only [shA_v, shCons_v, shI_v, shNil_v]
          intro b106 hb106 hbw106
          have g6 := Holds.new g5 hb106 hbw106 zR tRep
          change Holds w0 M (M5.set b106 (.row [.int .i64 0, .int .i64 0, .int .i64 0, .int .i64 0, .int .i64 0, .int .i64 0] tRep)) (star (row1 b106 zR tRep) _) at g6
          generalize M5.set b106 _ = M6 at g6 ⊢
          refine st_agg (vs := r.cells) W.g32 g6.own1 (by simp [Rep.cells]) (by intro v hv; simp only [Rep.cells, List.mem_cons, List.not_mem_nil, or_false] at hv; rcases hv with rfl | rfl | rfl | rfl | rfl | rfl <;> rfl) ?_
          have g7 := g6.upd1 (cs' := over zR 0 r.cells) (e' := tRep)
          rw [show over zR 0 r.cells = r.cells from rfl] at g7 ⊢
          generalize M6.set b106 _ = M7 at g7 ⊢
          have g8 : Holds w0 M M7 (star (DispA d x') (star (row1 b106 r.cells tRep) (star (row1 b62 c.cells tCmd) (star (SlKA 14 out (vI (evI evs))) (star (SlKA 2 told (vI tl)) emp))))) := g7.rot
          have LR : ∀ {M' : Mem}, Own w0 M' b106 r.cells tRep → (std PP w0).ld tRep ⟨b106, 0, none⟩ M' = some (.agg #[.int .i64 r.why, .int .i64 r.at_, .int .i64 r.gen, .int .i64 r.time, .int .i64 r.data, .int .i64 r.n]) := fun o => ld_agg (cs := r.cells) W.g32 (fun j v hj => by rw [add_eq, rd_own o, Nat.zero_add]; exact hj)
          -- the event
          have keyJ3 : ∀ (M' : Mem) (told : SV) (tl : List Int), told.n ≤ i + 1 → (∀ y ∈ tl, In64 y) → Holds w0 M M' (star (DispA d x') (star (row1 b106 r.cells tRep) (star (row1 b62 c.cells tCmd) (star (SlKA 14 out (vI (evI evs))) (star (SlKA 2 told (vI tl)) emp))))) →
              wJ_made.J3 pts k s most (some ⟨d, 0, none⟩) out told (i : Int) ⟨b62, 0, none⟩ ⟨b106, 0, none⟩ M' := by
            intro M' told tl htn htok g
            rw [H.J3]
            unfold wJ_made.J3.T
            have fin : ∀ (M4 : Mem) (be : Nat) (e : Evt), e.ok → (tame → ∃ sp, 0 ≤ sp ∧ sp ≤ 90 ∧ e = ⟨c, r, x'.now, sp⟩) → Holds w0 M M4 (star (row1 be (EvC e) tEv) (star (DispA d x') (star (row1 b106 r.cells tRep) (star (row1 b62 c.cells tCmd) (star (SlKA 14 out (vI (evI evs))) (star (SlKA 2 told (vI tl)) emp)))))) →
                (ob ((std PP w0).ld tEv ⟨be, 0, none⟩ M4) fun v228 => shA v228 fun l229 => shCons l229 fun u230 r231 => shI .i64 u230 fun n232 => shCons r231 fun u233 r234 => shI .i64 u233 fun n235 => shCons r234 fun u236 r237 => shI .i64 u236 fun n238 => shCons r237 fun u239 r240 => shI .i64 u239 fun n241 => shCons r240 fun u242 r243 => shI .i64 u242 fun n244 => shCons r243 fun u245 r246 => shI .i64 u245 fun n247 => shCons r246 fun u248 r249 => shI .i64 u248 fun n250 => shCons r249 fun u251 r252 => shI .i64 u251 fun n253 => shCons r252 fun u254 r255 => shI .i64 u254 fun n256 => shCons r255 fun u257 r258 => shI .i64 u257 fun n259 => shCons r258 fun u260 r261 => shI .i64 u260 fun n262 => shCons r261 fun u263 r264 => shI .i64 u263 fun n265 => shCons r264 fun u266 r267 => shI .i64 u266 fun n268 => shCons r267 fun u269 r270 => shI .i64 u269 fun n271 => shNil r270
                  ((std PP w0).bsl 37 1 [(0, .agg #[.int .i64 n232, .int .i64 n235, .int .i64 n238, .int .i64 n241, .int .i64 n244, .int .i64 n247, .int .i64 n250, .int .i64 n253, .int .i64 n256, .int .i64 n259, .int .i64 n262, .int .i64 n265, .int .i64 n268, .int .i64 n271])] (fun v272 M273 => shS v272 fun s274 => (std PP w0).app #[37, 37] 37 [SV.v out, SV.v s274] (fun v275 M276 => shS v275 fun s277 => wJ_made.L1 pts k s most (some ⟨d, 0, none⟩) s277 told (w64 ((i : Int) + 1)) M276) M273) M4)) := by
              intro M4 be e heok hte g
              rw [boxEv (e := e) g.own1 rfl]
              unfold Evt.v
              simp only [ob_v, shA_v, shCons_v, shI_v, shNil_v]
              refine newEv g e fun M8 sn l8 h8 => ?_
              rw [shS_sv]
              have e8 := slkCells h8
              have nout := (slkCells g.right.right.right.right).2.1
              unfold vI at nout
              rw [List.length_map, evI_len] at nout
              refine appK Try.underlying37 W.e34 (Holds.ju6 h8) e8.2.1 e8.1 e8.2.2 (EvC_one e) (by decide) (by have := e8.2.1; simp [EvC] at this; omega) fun M9 s9 h9 => ?_
              rw [shS_sv, i64_succ (by omega)]
              rw [evI_snoc] at h9
              by_cases hk0 : k = 0
              · subst hk0; omega
              refine ih (i + 1) M9 s9 told (evs ++ [e]) tl x' st' (by omega) (by omega) (by simp [hel]) (by omega) htn (fun y hy => ?_) htok hrel' hkok' (fun ht => ?_) ?_ hk0
              · rcases List.mem_append.1 hy with hy | hy
                · exact hok y hy
                · simp at hy; subst hy; exact heok
              · obtain ⟨sp, s0, s1, rfl⟩ := hte ht
                exact (hfine ht).app ⟨st', hstep, hrel'.now, s0, s1, rfl⟩
              · obtain ⟨F1, k1, _, k2⟩ := h9.last
                have k3 := k1.right.right
                obtain ⟨F2, k4, _, k5⟩ := k3.last
                exact (k2 _ _ (k5 _ _ k4.right.right)).rot
            have o3 : ∀ {M' : Mem} {P : Asn}, Holds w0 M M' (star (DispA d x') (star (row1 b106 r.cells tRep) (star (row1 b62 c.cells tCmd) P))) → (std PP w0).ld tCmd ⟨b62, 0, none⟩ M' = some (.agg #[.int .i64 c.kind, .int .i64 c.queue, .int .i64 c.at_, .int .i64 c.gen, .int .i64 c.time, .int .i64 c.data]) ∧ (std PP w0).ld tRep ⟨b106, 0, none⟩ M' = some (.agg #[.int .i64 r.why, .int .i64 r.at_, .int .i64 r.gen, .int .i64 r.time, .int .i64 r.data, .int .i64 r.n]) ∧ rd w0 M' ⟨d, 1, none⟩ = some (.int .i64 x'.now) := fun g => by
              obtain ⟨p, s, hs⟩ := DispA.open_ g
              exact ⟨LC g.right.right.own1, LR g.right.own1, hs.rn⟩
            obtain ⟨e1, e2, e3⟩ := o3 g
            have hi64 : In64 (i : Int) := by unfold In64; omega
            simp (maxSteps := 10000000) only [e1, e2, nc_v, ld_one W.c2, add_eq, Nat.zero_add, e3, ob_v, shA_v, shCons_v, shI_v, shNil_v]
            refine ⟨?q1, ?q2⟩
            case' q1 =>
              refine Within_ok hi64 (by omega) (by omega) (by omega) (by omega) fun sp sp0 sp1 => ?_
              rw [shI_v, bEv]
              simp only [ob_v, shA_v, shCons_v, shI_v, shNil_v]
              refine ⟨e1, e2, e3, ?_⟩
              intro be hbe hbew
              have g3 := Holds.new g hbe hbew [.int .i64 0, .int .i64 0, .int .i64 0, .int .i64 0, .int .i64 0, .int .i64 0, .int .i64 0, .int .i64 0, .int .i64 0, .int .i64 0, .int .i64 0, .int .i64 0, .int .i64 0, .int .i64 0] tEv
              generalize M'.set be _ = M3 at g3 ⊢
              obtain ⟨f1, f2, f3⟩ := o3 g3.right
              refine ⟨f1, f2, f3, ?_⟩
            case' q2 =>
              intro be hbe hbew
              have g3 := Holds.new g hbe hbew [.int .i64 0, .int .i64 0, .int .i64 0, .int .i64 0, .int .i64 0, .int .i64 0, .int .i64 0, .int .i64 0, .int .i64 0, .int .i64 0, .int .i64 0, .int .i64 0, .int .i64 0, .int .i64 0] tEv
              generalize M'.set be _ = M3 at g3 ⊢
              obtain ⟨f1, f2, f3⟩ := o3 g3.right
              refine ⟨f1, f2, f3, ?_⟩
              refine Within_ok hi64 (by omega) (by omega) (by omega) (by omega) fun sp sp0 sp1 => ?_
              rw [shI_v, bEv]
              simp only [ob_v, shA_v, shCons_v, shI_v, shNil_v]
              refine ⟨f1, f2, f3, ?_⟩
            all_goals
              refine st_agg (vs := EvC ⟨c, r, x'.now, sp⟩) W.g34 g3.own1 (by simp [EvC]) (EvC_one _) ?_
              have g4 := g3.upd1 (cs' := over [.int .i64 0, .int .i64 0, .int .i64 0, .int .i64 0, .int .i64 0, .int .i64 0, .int .i64 0, .int .i64 0, .int .i64 0, .int .i64 0, .int .i64 0, .int .i64 0, .int .i64 0, .int .i64 0] 0 (EvC ⟨c, r, x'.now, sp⟩)) (e' := tEv)
              rw [show over [.int .i64 0, .int .i64 0, .int .i64 0, .int .i64 0, .int .i64 0, .int .i64 0, .int .i64 0, .int .i64 0, .int .i64 0, .int .i64 0, .int .i64 0, .int .i64 0, .int .i64 0, .int .i64 0] 0 (EvC ⟨c, r, x'.now, sp⟩) = EvC ⟨c, r, x'.now, sp⟩ from rfl] at g4 ⊢
              generalize M3.set be _ = M4 at g4 ⊢
              have hM4 := g4.fr
              have t11 : rd w0 M4 (Addr.add (a.add (i * 27)) 11) = some (.int .i64 (gd 11)) := by rw [add_add]; exact hra M4 hM4 11 (by decide)
              have t12 : rd w0 M4 (Addr.add (a.add (i * 27)) 12) = some (.int .i64 (gd 12)) := by rw [add_add]; exact hra M4 hM4 12 (by decide)
              have t13 : (std PP w0).ld tEv (Addr.add (a.add (i * 27)) 13) M4 = some (.agg #[.int .i64 (gd 13), .int .i64 (gd 14), .int .i64 (gd 15), .int .i64 (gd 16), .int .i64 (gd 17), .int .i64 (gd 18), .int .i64 (gd 19), .int .i64 (gd 20), .int .i64 (gd 21), .int .i64 (gd 22), .int .i64 (gd 23), .int .i64 (gd 24), .int .i64 (gd 25), .int .i64 (gd 26)]) := ld_agg (cs := [.int .i64 (gd 13), .int .i64 (gd 14), .int .i64 (gd 15), .int .i64 (gd 16), .int .i64 (gd 17), .int .i64 (gd 18), .int .i64 (gd 19), .int .i64 (gd 20), .int .i64 (gd 21), .int .i64 (gd 22), .int .i64 (gd 23), .int .i64 (gd 24), .int .i64 (gd 25), .int .i64 (gd 26)]) W.g34 (fun j v hj => by
                rw [add_add, add_add]
                match j, hj with
                | 0, hj => cases hj; exact hra M4 hM4 13 (by decide)
                | 1, hj => cases hj; exact hra M4 hM4 14 (by decide)
                | 2, hj => cases hj; exact hra M4 hM4 15 (by decide)
                | 3, hj => cases hj; exact hra M4 hM4 16 (by decide)
                | 4, hj => cases hj; exact hra M4 hM4 17 (by decide)
                | 5, hj => cases hj; exact hra M4 hM4 18 (by decide)
                | 6, hj => cases hj; exact hra M4 hM4 19 (by decide)
                | 7, hj => cases hj; exact hra M4 hM4 20 (by decide)
                | 8, hj => cases hj; exact hra M4 hM4 21 (by decide)
                | 9, hj => cases hj; exact hra M4 hM4 22 (by decide)
                | 10, hj => cases hj; exact hra M4 hM4 23 (by decide)
                | 11, hj => cases hj; exact hra M4 hM4 24 (by decide)
                | 12, hj => cases hj; exact hra M4 hM4 25 (by decide)
                | 13, hj => cases hj; exact hra M4 hM4 26 (by decide))
              have ob4 := g4.own1
              have b6 : rd w0 M4 ⟨be, 6, none⟩ = some (.int .i64 r.why) := rd_own (o := 6) ob4
              have b7 : rd w0 M4 ⟨be, 7, none⟩ = some (.int .i64 r.at_) := rd_own (o := 7) ob4
              have b9 : rd w0 M4 ⟨be, 9, none⟩ = some (.int .i64 r.time) := rd_own (o := 9) ob4
              have b11 : rd w0 M4 ⟨be, 11, none⟩ = some (.int .i64 r.n) := rd_own (o := 11) ob4
              have b12 : rd w0 M4 ⟨be, 12, none⟩ = some (.int .i64 x'.now) := rd_own (o := 12) ob4
              simp (maxSteps := 10000000) only [ha, nc_v, Int.toNat_natCast, ld_one W.c3, ld_one W.c2, ld_one W.c30, add_eq, Nat.zero_add, Nat.reduceAdd, t11, t12, t13, b6, b7, b9, b11, b12, bq_xor, ob_v, shA_v, shCons_v, shI_v, shNil_v]
              refine ⟨hbd, ?_⟩
              have spin : In64 sp := by unfold In64; omega
              have nin : In64 x'.now := hkok'.now
              have ri : ∀ y ∈ r.ints, In64 y := hrok
              have r0 : In64 r.why := ri _ (by simp [Rep.ints])
              have r1 : In64 r.at_ := ri _ (by simp [Rep.ints])
              have r2 : In64 r.gen := ri _ (by simp [Rep.ints])
              have r3 : In64 r.time := ri _ (by simp [Rep.ints])
              have r4 : In64 r.data := ri _ (by simp [Rep.ints])
              have r5 : In64 r.n := ri _ (by simp [Rep.ints])
              rw [bs_beq]
              split
              · rename_i ht
                refine st_one W.c2 ob4 (by simp [EvC]) rfl rfl ?_
                exact fin _ be ⟨c, { r with time := xor1 r.time }, x'.now, sp⟩ (ev14 hc (rep6 r0 r1 r2 (xor1_in _) r4 r5) nin spin) (fun hh => by have := htm hh; omega) (g4.upd1 (cs' := EvC ⟨c, { r with time := xor1 r.time }, x'.now, sp⟩) (e' := tEv))
              · rename_i ht1
                rw [bs_beq]
                split
                · rename_i ht
                  refine st_one W.c30 ob4 (by simp [EvC]) rfl rfl ?_
                  exact fin _ be ⟨c, { r with why := w64 (r.why + 1) }, x'.now, sp⟩ (ev14 hc (rep6 (w64_range _) r1 r2 r3 r4 r5) nin spin) (fun hh => by have := htm hh; omega) (g4.upd1 (cs' := EvC ⟨c, { r with why := w64 (r.why + 1) }, x'.now, sp⟩) (e' := tEv))
                · rename_i ht2
                  rw [bs_beq]
                  split
                  · rename_i ht
                    refine st_one W.c2 ob4 (by simp [EvC]) rfl rfl ?_
                    exact fin _ be ⟨c, r, xor1 x'.now, sp⟩ (ev14 hc hrok (xor1_in _) spin) (fun hh => by have := htm hh; omega) (g4.upd1 (cs' := EvC ⟨c, r, xor1 x'.now, sp⟩) (e' := tEv))
                  · rename_i ht3
                    rw [bs_beq]
                    split
                    · rename_i ht
                      refine ⟨hbd, ?_⟩
                      refine st_one W.c2 ob4 (by simp [EvC]) rfl rfl ?_
                      exact fin _ be ⟨c, r, x'.now, gd 12⟩ (ev14 hc hrok nin (hw 12 (by decide))) (fun hh => by have := htm hh; omega) (g4.upd1 (cs' := EvC ⟨c, r, x'.now, gd 12⟩) (e' := tEv))
                    · rename_i ht4
                      rw [bs_beq]
                      split
                      · rename_i ht
                        refine st_one W.c3 ob4 (by simp [EvC]) rfl rfl ?_
                        exact fin _ be ⟨c, { r with at_ := w64 (r.at_ + 1) }, x'.now, sp⟩ (ev14 hc (rep6 r0 (w64_range _) r2 r3 r4 r5) nin spin) (fun hh => by have := htm hh; omega) (g4.upd1 (cs' := EvC ⟨c, { r with at_ := w64 (r.at_ + 1) }, x'.now, sp⟩) (e' := tEv))
                      · rename_i ht5
                        rw [bs_beq]
                        split
                        · rename_i ht
                          refine st_one W.c3 ob4 (by simp [EvC]) rfl rfl ?_
                          exact fin _ be ⟨c, { r with n := w64 (r.n + 1) }, x'.now, sp⟩ (ev14 hc (rep6 r0 r1 r2 r3 r4 (w64_range _)) nin spin) (fun hh => by have := htm hh; omega) (g4.upd1 (cs' := EvC ⟨c, { r with n := w64 (r.n + 1) }, x'.now, sp⟩) (e' := tEv))
                        · rename_i ht6
                          rw [bs_beq]
                          split
                          · rename_i ht
                            refine ⟨hbd, ?_⟩
                            refine st_agg (vs := EvC ⟨⟨gd 13, gd 14, gd 15, gd 16, gd 17, gd 18⟩, ⟨gd 19, gd 20, gd 21, gd 22, gd 23, gd 24⟩, gd 25, gd 26⟩) W.g34 ob4 (by simp [EvC]) (EvC_one _) ?_
                            exact fin _ be ⟨⟨gd 13, gd 14, gd 15, gd 16, gd 17, gd 18⟩, ⟨gd 19, gd 20, gd 21, gd 22, gd 23, gd 24⟩, gd 25, gd 26⟩ (ev14 (ok6 (hw 13 (by decide)) (hw 14 (by decide)) (hw 15 (by decide)) (hw 16 (by decide)) (hw 17 (by decide)) (hw 18 (by decide))) (rep6 (hw 19 (by decide)) (hw 20 (by decide)) (hw 21 (by decide)) (hw 22 (by decide)) (hw 23 (by decide)) (hw 24 (by decide))) (hw 25 (by decide)) (hw 26 (by decide))) (fun hh => by have := htm hh; omega) (g4.upd1 (cs' := EvC ⟨⟨gd 13, gd 14, gd 15, gd 16, gd 17, gd 18⟩, ⟨gd 19, gd 20, gd 21, gd 22, gd 23, gd 24⟩, gd 25, gd 26⟩) (e' := tEv))
                          · exact fin M4 be ⟨c, r, x'.now, sp⟩ (ev14 hc hrok nin spin) (fun _ => ⟨sp, sp0, sp1, rfl⟩) g4
          -- what was told
          have ck := g8.right.right.own1
          have cr := g8.right.own1
          have k0 : rd w0 M7 ⟨b62, 0, none⟩ = some (.int .i64 c.kind) := rd_own (o := 0) ck
          have w0' : rd w0 M7 ⟨b106, 0, none⟩ = some (.int .i64 r.why) := rd_own (o := 0) cr
          have ldj : (std PP w0).ld 25 ⟨b106, 1, none⟩ M7 = some (.agg #[.int .i64 r.at_, .int .i64 r.gen]) := ld_agg (cs := [.int .i64 r.at_, .int .i64 r.gen]) W.g25 (fun j v hj => by
            rw [add_eq, rd_own cr]
            match j, hj with
            | 0, hj => exact hj
            | 1, hj => exact hj)
          simp only [ld_one W.c3, ld_one W.c30, add_eq, Nat.zero_add, k0, w0', ldj, ob_v, shA_v, shCons_v, shI_v, shNil_v]
          rw [bs_beq]
          split
          · rw [bs_beq]
            split
            · refine bsl_e (n := 1) (cells := #[.int .i64 r.at_, .int .i64 r.gen]) Try.underlying47 W.e25 (by decide) (by kernel_rfl) fun bt hbt hbtw => ?_
              have l8 : Mem.le M7 (M7.set bt (.row (#[.int .i64 r.at_, .int .i64 r.gen] : Array Value).toList 25)) := Mem.le_set _ hbt
              have h8 : Holds w0 M (M7.set bt (.row (#[.int .i64 r.at_, .int .i64 r.gen] : Array Value).toList 25)) (star (SlKA 2 ⟨some ⟨bt, 0, none⟩, 1, 1⟩ [.int .i64 r.at_, .int .i64 r.gen]) _) := Holds.newSlk g8 l8 (SlK.new (n := 1) hbt (Own.new hbtw) rfl)
              generalize M7.set bt _ = M8 at h8 l8 ⊢
              rw [shS_v]
              have e8 := slkCells h8
              have nt := (slkCells g8.right.right.right.right).2.1
              refine appK (x := ⟨some ⟨bt, 0, none⟩, 1, 1⟩) Try.underlying47 W.e25 (Holds.ju6 h8) e8.2.1 e8.1 e8.2.2 (vI_one [r.at_, r.gen]) (by decide) (by simp only; omega) fun M9 s9 h9 => ?_
              rw [shS_sv]
              have hvv : vI tl ++ [Value.int .i64 r.at_, .int .i64 r.gen] = vI (tl ++ [r.at_, r.gen]) := by simp [vI]
              rw [hvv] at h9
              have hn9 : s9.n ≤ i + 1 := by
                have h1 := (slkCells h9).2.1
                simp [vI] at h1 nt
                omega
              refine keyJ3 M9 s9 (tl ++ [r.at_, r.gen]) hn9 (fun y hy => ?_) ?_
              · rcases List.mem_append.1 hy with hy | hy
                · exact htok y hy
                · simp at hy
                  rcases hy with rfl | rfl
                  · exact hrok _ (by simp [Rep.ints])
                  · exact hrok _ (by simp [Rep.ints])
              · -- told behind the others
                obtain ⟨F1, k1, _, k2⟩ := h9.last
                have k3 := k1.right
                have k4 := k2 _ _ k3
                have k5 : Holds w0 M M9 (star (SlKA 2 s9 (vI (tl ++ [r.at_, r.gen]))) (star (DispA d x') (star (row1 b106 r.cells tRep) (star (row1 b62 c.cells tCmd) (star (SlKA 14 out (vI (evI evs))) emp))))) := k4
                exact Holds.ju5i k5
            · exact keyJ3 M7 told tl (by omega) htok g8
          · exact keyJ3 M7 told tl (by omega) htok g8
        · exact endR M' out told evs tl x st hok (by omega) hfine g
      · exact endR M' out told evs tl x st hok (by omega) hfine g
  exact ⟨_, key (s.n + 1) 0 M1 ⟨none, 0, 0⟩ ⟨none, 0, 0⟩ [] [] (D22.new n) ⟨0, []⟩ (.inl (by omega)) (by omega) rfl (Nat.le_refl _) (Nat.le_refl _) (fun e he => by cases he) (fun y hy => by cases hy) (RelD.new (by omega)) (KOk.new n) (fun _ => rfl) (by
    obtain ⟨F1, k1, _, k2⟩ := g1.last
    exact k2 _ _ (Holds.nilSlk (k := 14) (Holds.nilSlk (k := 2) k1))) (by omega)⟩
end
end Go.Proofs.Ytedofpnjmnkedaa.HL
set_option linter.unusedVariables false
set_option linter.unusedSimpArgs false
set_option maxRecDepth 100000
namespace Go.Proofs.Ytedofpnjmnkedaa.HL
open Go.RowKit (Below)
open Go.Proofs
section
variable {w0 : World} {F M : Mem} {R : Value → Mem → Prop}
theorem RdF.nilE : RdF w0 M 14 ⟨none, 0, 0⟩ (evI []) := ⟨rfl, Nat.le_refl _, by simp, fun j x hx => by simp [evI] at hx, fun n hn => by cases hn⟩
def evOdd : Evt := ⟨⟨5, 0, 0, 0, 0, 0⟩, { why := 28 }, 1, 0⟩
theorem ck1 : (CkB 1 5 []).1 = -1 ∧ (CkB 1 5 []).2.1 = 0 := ⟨rfl, rfl⟩
theorem ck2 : (CkB 5 5 []).1 = 0 ∧ (CkB 5 5 []).2.1 = 1 := ⟨rfl, rfl⟩
theorem ck3 : (CkB 1 5 [evOdd]).1 = 0 ∧ (CkB 1 5 [evOdd]).2.1 = 3 := ⟨rfl, rfl⟩
theorem known26_ok (hR : ∀ M', Mem.le M M' → R (.bool true) M') : C PP w0 Id.wJ_known #[] R M := by
  apply wJ_known.go
  unfold wJ_known.T
  refine JCheck_ok (s := ⟨none, 0, 0⟩) (l := []) RdF.nilE (by decide) fun M1 l1 => ?_
  rw [ck1.1, ck1.2]
  simp only [shT_v, shCons_v, shI_v, shNil_v]
  refine JCheck_ok (s := ⟨none, 0, 0⟩) (l := []) RdF.nilE (by decide) fun M2 l2 => ?_
  rw [ck2.1, ck2.2]
  have hb1 : (std PP w0).bld tCmd [(0, .int .i64 5)] = some (.agg #[.int .i64 5, .int .i64 0, .int .i64 0, .int .i64 0, .int .i64 0, .int .i64 0]) := by kernel_rfl
  have hb2 : (std PP w0).bld tEv [(0, .agg #[.int .i64 5, .int .i64 0, .int .i64 0, .int .i64 0, .int .i64 0, .int .i64 0]), (1, .agg #[.int .i64 28, .int .i64 0, .int .i64 0, .int .i64 0, .int .i64 0, .int .i64 0]), (2, .int .i64 1)] = some (.agg #[.int .i64 5, .int .i64 0, .int .i64 0, .int .i64 0, .int .i64 0, .int .i64 0, .int .i64 28, .int .i64 0, .int .i64 0, .int .i64 0, .int .i64 0, .int .i64 0, .int .i64 1, .int .i64 0]) := by kernel_rfl
  simp only [shT_v, shCons_v, shI_v, shNil_v, hb1, bR0, hb2, ob_v, shA_v]
  refine newEv (Holds.emp0 (w0 := w0) (M := M2)) evOdd fun M3 s l3 h3 => ?_
  rw [shS_sv]
  have hrd : RdF w0 M3 14 s (evI [evOdd]) := Holds.rdF (by decide) (l := evI [evOdd]) h3 (wf_all (by intro x hx; simp [evI, Evt.ints, evOdd] at hx; unfold In64; omega)) (by have := (slkCells h3).2.1; simp [EvC] at this; omega)
  refine JCheck_ok hrd (by decide) fun M4 l4 => ?_
  rw [ck3.1, ck3.2]
  simp only [shT_v, shCons_v, shI_v, shNil_v]
  rw [show ((-1 : Int) == -1) = true from rfl, bs_true, show ((0 : Int) == 0) = true from rfl, bs_true, bs_true, show ((1 : Int) == 1) = true from rfl, bs_true, bs_true, show ((3 : Int) == 3) = true from rfl]
  exact hR M4 (Mem.le_trans l1 (Mem.le_trans l2 (Mem.le_trans l3 l4)))
end
end Go.Proofs.Ytedofpnjmnkedaa.HL
set_option linter.unusedVariables false
set_option linter.unusedSimpArgs false
set_option maxRecDepth 100000
set_option maxHeartbeats 1000000
namespace Go.Proofs.Ytedofpnjmnkedaa.HL
open Go.RowKit (Below)
open Go.Proofs
theorem evI_flat (l : List Evt) : vI (evI l) = l.flatMap EvC := by
  induction l with
  | nil => rfl
  | cons e l ih =>
    rw [List.flatMap_cons, ← ih]
    rfl
theorem over_all {cs vs : List Value} (h : vs.length = cs.length) : over cs 0 vs = vs := by
  have := over_mid [] cs [] vs h (o := 0) rfl
  simpa using this
theorem EvC_len (e : Evt) : (EvC e).length = 14 := rfl
section
variable {w0 : World} {F M : Mem} {R : Value → Mem → Prop}
theorem RdF.cellsV {k : Nat} {M0 : Mem} {s : SV} {l : List Int} (h : RdF w0 M0 k s l) (hl : Mem.le M0 M) : Cells w0 M s.a (vI l) := fun j v hj => by
  unfold vI at hj
  rw [List.getElem?_map] at hj
  cases hx : l[j]? with
  | none => rw [hx] at hj; cases hj
  | some x =>
    rw [hx] at hj; cases hj
    obtain ⟨a, ha, hr⟩ := h.cell j x hx
    exact ⟨a, ha, hr M hl⟩
theorem RdF.nulV {k : Nat} (hk : 0 < k) {M0 : Mem} {s : SV} {l : List Int} (h : RdF w0 M0 k s l) (hn : s.a = none) : s.n = 0 := by
  cases l with
  | nil =>
    have h1 : 0 = s.n * k := h.len
    exact (Nat.mul_eq_zero.1 h1.symm).resolve_right (by omega)
  | cons x t =>
    obtain ⟨a, ha, _⟩ := h.cell 0 x rfl
    rw [hn] at ha; cases ha
theorem newE14 {P : Asn} (h : Holds w0 F M P) {K : Value → Mem → Prop} (hK : ∀ M' s', Mem.le M M' → Holds w0 F M' (star (SlKA 14 s' []) P) → K s'.v M') : (std PP w0).bsl 37 0 [] K M := by
  refine bsl_e (cells := #[]) Try.underlying37 W.e34 (by decide) (by kernel_rfl) fun b hb hw => ?_
  have l1 : Mem.le M (M.set b (.row (#[] : Array Value).toList tEv)) := Mem.le_set _ hb
  exact hK _ ⟨some ⟨b, 0, none⟩, 0, 0⟩ l1 (Holds.newSlk h l1 (SlK.new (n := 0) hb (Own.new hw) rfl))
theorem copyEv {P : Asn} {s d : SV} {l : List Evt} {M0 : Mem} (h : Holds w0 F M (star (SlKA 14 d []) P)) (hs : RdF w0 M0 14 s (evI l)) (hl : Mem.le M0 M) (hn : l.length ≤ 1000) {K : Value → Mem → Prop} (hK : ∀ M' s', Holds w0 F M' (star (SlKA 14 s' (vI (evI l))) P) → K s'.v M') :
    (std PP w0).app #[37, 37] 37 [SV.v d, SV.v s] K M := by
  have hsn := hs.evn
  have n0 : d.n = 0 := by have := (slkCells h).2.1; simp at this; omega
  refine appK Try.underlying37 W.e34 h (by unfold vI; rw [List.length_map, evI_len, hsn]) (hs.cellsV hl) (hs.nulV (by decide)) (vI_one _) (by decide) (by omega) fun M' s' h' => ?_
  exact hK M' s' h'
theorem Fine.take {jobs : Int} : ∀ {es : List Evt} {st st' : St} (k : Nat), Fine jobs st es st' → ∃ st'', Fine jobs st (es.take k) st''
  | [], st, st', k, h => ⟨st, by rw [List.take_nil]; rfl⟩
  | e :: es, st, st', 0, h => ⟨st, rfl⟩
  | e :: es, st, st', k + 1, h => by
    obtain ⟨s, h1, h2, h3, h4, h5⟩ := h
    obtain ⟨s2, h6⟩ := h5.take k
    exact ⟨s2, s, h1, h2, h3, h4, h6⟩
theorem Fine.at {jobs : Int} : ∀ {es : List Evt} {st st' : St} {k : Nat} {e : Evt}, Fine jobs st es st' → es[k]? = some e → ∃ s1 s2, Fine jobs st (es.take k) s1 ∧ stepA jobs s1 e.c e.r = some (s2, e.r) ∧ e.now = s2.now ∧ 0 ≤ e.steps ∧ e.steps ≤ 90
  | [], st, st', k, e, h, he => by simp at he
  | x :: es, st, st', 0, e, h, he => by
    simp at he; subst he
    obtain ⟨s, h1, h2, h3, h4, h5⟩ := h
    exact ⟨st, s, rfl, h1, h2, h3, h4⟩
  | x :: es, st, st', k + 1, e, h, he => by
    obtain ⟨s, h1, h2, h3, h4, h5⟩ := h
    obtain ⟨s1, s2, g1, g2, g3, g4, g5⟩ := h5.at (by simpa using he)
    exact ⟨s1, s2, ⟨s, h1, h2, h3, h4, g1⟩, g2, g3, g4, g5⟩
theorem ckA_app {jobs bud : Int} (hb : 90 ≤ bud) : ∀ {es fs : List Evt} {st s1 : St} {i : Int}, Fine jobs st es s1 → ckA jobs bud i st (es ++ fs) = ckA jobs bud (i + (es.length : Int)) s1 fs
  | [], fs, st, s1, i, h => by
    have : st = s1 := h
    rw [this, List.nil_append]; simp
  | e :: es, fs, st, s1, i, h => by
    obtain ⟨s, h1, h2, h3, h4, h5⟩ := h
    have hw := Fine.whyA hb h1 h2 h3 h4
    rw [List.cons_append, ckA_cons0 (by rw [hw]), hw, ckA_app hb h5, List.length_cons]
    congr 1
    omega
theorem stepA_congr {jobs : Int} {st : St} {c : Cmd} {was was' : Rep} (h1 : was'.at_ = was.at_) (h2 : was'.gen = was.gen) : stepA jobs st c was' = stepA jobs st c was := by
  unfold stepA
  rw [h1, h2]
theorem bud90 (n : Int) : (90 : Int) ≤ 2000 + 1600 * (bl (n.toNat + 1) : Int) := by omega
theorem CkB_fine {n : Int} (h1 : 1 ≤ n) (h2 : n ≤ 20) {es : List Evt} {st' : St} (hf : Fine n ⟨0, []⟩ es st') : (CkB 1 n es).1 = -1 ∧ (CkB 1 n es).2.1 = 0 := by
  have : CkB 1 n es = ((ckA n (2000 + 1600 * (bl (n.toNat + 1) : Int)) 0 ⟨0, []⟩ es).1, (ckA n (2000 + 1600 * (bl (n.toNat + 1) : Int)) 0 ⟨0, []⟩ es).2.1, allE (ckA n (2000 + 1600 * (bl (n.toNat + 1) : Int)) 0 ⟨0, []⟩ es).2.2.l) := if_pos ⟨by unfold worstK; omega, h1, by omega⟩
  rw [this, Fine.ckA (bud90 n) hf]
  exact ⟨rfl, rfl⟩
theorem CkB_turn {n : Int} (h1 : 1 ≤ n) (h2 : n ≤ 20) {es : List Evt} {st' : St} (hf : Fine n ⟨0, []⟩ es st') {k : Nat} {e : Evt} (he : es[k]? = some e) (hok : e.ok) :
    ((CkB 1 n (es.set k ⟨e.c, { e.r with time := xor1 e.r.time }, e.now, e.steps⟩)).1 = (k : Int) ∧ (CkB 1 n (es.set k ⟨e.c, { e.r with time := xor1 e.r.time }, e.now, e.steps⟩)).2.1 = 2) ∧
    ((CkB 1 n (es.set k ⟨e.c, e.r, xor1 e.now, e.steps⟩)).1 = (k : Int) ∧ (CkB 1 n (es.set k ⟨e.c, e.r, xor1 e.now, e.steps⟩)).2.1 = 3) := by
  have hw : worstK 1 ∧ 1 ≤ n ∧ n ≤ 4096 := ⟨by unfold worstK; omega, h1, by omega⟩
  obtain ⟨s1, s2, g1, g2, g3, g4, g5⟩ := hf.at he
  have hkl := (List.getElem?_eq_some_iff.1 he).1
  have hset : ∀ e', es.set k e' = es.take k ++ e' :: es.drop (k + 1) := fun e' => by rw [List.set_eq_take_append_cons_drop, if_pos hkl]
  have htl : ((es.take k).length : Int) = (k : Int) := by rw [List.length_take]; omega
  have hr9 : In64 e.r.time := hok _ (by simp [Evt.ints])
  have hn9 : In64 e.now := hok _ (by simp [Evt.ints])
  constructor
  · have hne : e.r ≠ { e.r with time := xor1 e.r.time } := fun hh => xor1_ne hr9 (congrArg Rep.time hh).symm
    have hst : stepA n s1 e.c { e.r with time := xor1 e.r.time } = some (s2, e.r) := (stepA_congr (was := e.r) rfl rfl).trans g2
    have hwy : whyA n (2000 + 1600 * (bl (n.toNat + 1) : Int)) s1 ⟨e.c, { e.r with time := xor1 e.r.time }, e.now, e.steps⟩ = (2, s1) := by
      rw [whyA_some (e := ⟨e.c, { e.r with time := xor1 e.r.time }, e.now, e.steps⟩) hst, if_pos hne]
    unfold CkB
    rw [if_pos hw, hset, ckA_app (bud90 n) g1, ckA_cons1 (by rw [hwy]; simp only; omega), hwy, htl]
    exact ⟨by simp only; omega, rfl⟩
  · have hwy : whyA n (2000 + 1600 * (bl (n.toNat + 1) : Int)) s1 ⟨e.c, e.r, xor1 e.now, e.steps⟩ = (3, s1) := by
      rw [whyA_some (e := ⟨e.c, e.r, xor1 e.now, e.steps⟩) g2, if_neg (by simp), if_pos (by rw [← g3]; exact xor1_ne hn9)]
    unfold CkB
    rw [if_pos hw, hset, ckA_app (bud90 n) g1, ckA_cons1 (by rw [hwy]; simp only; omega), hwy, htl]
    exact ⟨by simp only; omega, rfl⟩
theorem ev_ok {s : SV} {l : List Evt} {M0 : Mem} (h : RdF w0 M0 14 s (evI l)) {k : Nat} {e : Evt} (he : l[k]? = some e) : e.ok := fun x hx => by
  obtain ⟨f, hf⟩ := List.getElem?_of_mem hx
  exact int_wf (h.wf _ (List.mem_of_getElem? (evI_get he f x hf)))
theorem wf_set {l : List Evt} (h : ∀ x ∈ evI l, (Lit.int .i64 x).wf = true) {k : Nat} {e : Evt} (he : e.ok) : ∀ x ∈ evI (l.set k e), (Lit.int .i64 x).wf = true := fun x hx => by
  obtain ⟨y, hy, hxy⟩ := List.mem_flatMap.1 hx
  rcases List.mem_or_eq_of_mem_set hy with hy | rfl
  · exact h x (List.mem_flatMap.2 ⟨y, hy, hxy⟩)
  · exact wf64 (he x hxy)
theorem JudgeTurned_law (hR : ∀ M, R (.bool true) M) {jobs at_ cut : Int} {s : SV} {dl : List Int} (hj : In64 jobs) (hs : RdF w0 M 27 s dl) (ha : In64 at_) (hc : In64 cut) :
    C PP w0 Id.wJ_JudgeTurned #[.int .i64 jobs, SV.v s, .int .i64 at_, .int .i64 cut] R M := by
  apply wJ_JudgeTurned.go
  intro pts H
  unfold wJ_JudgeTurned.T
  refine Within_ok hj (by omega) (by omega) (by omega) (by omega) fun n n1 n2 => ?_
  rw [shI_v]
  -- behind the tame ones
  have keyJ1 : ∀ (M1 : Mem) (t : SV) (tl : List Int), RdF w0 M1 27 t tl → (∀ i, i < t.n → tl[i * 27 + 11]? = some 0) → wJ_JudgeTurned.J1 pts at_ cut n t M1 := by
    intro M1 t tl ht h11
    rw [H.J1]
    unfold wJ_JudgeTurned.J1.T
    refine made_ok (tame := True) n1 n2 (by decide) (fun i hi => ⟨_, ht.draw hi, fun _ => by show tl.getD (i * 27 + 11) 0 = 0; rw [List.getD_eq_getElem?_getD, h11 i hi]; rfl⟩) fun M2 m ms l2 hm hml hfine => ?_
    obtain ⟨st', hf⟩ := hfine trivial
    have hmn := hm.evn
    rw [shS_sv]
    obtain ⟨c1, c2⟩ := CkB_fine n1 n2 hf
    refine JCheck_ok hm (by omega) fun M3 l3 => ?_
    rw [c1, c2]
    simp only [shT_v, shCons_v, shI_v, shNil_v]
    rw [show ((-1 : Int) != -1) = false from rfl, bs_false, show ((0 : Int) != 0) = false from rfl, bs_false]
    rw [H.J3]
    unfold wJ_JudgeTurned.J3.T
    have hm3 := hm.le l3
    have hcap := hm.cap
    refine Within_ok hc (by omega) (by omega) (by omega) (by omega) fun z z1 z2 => ?_
    rw [shI_v]
    refine ⟨⟨by omega, by omega, by omega⟩, ?_⟩
    have hx : (Value.slice (if m.c = (0 : Int).toNat then m.a else m.a.map (·.add ((0 : Int).toNat * 14))) (z.toNat - (0 : Int).toNat) (m.c - (0 : Int).toNat)) = SV.v ⟨if m.c = 0 then m.a else m.a.map (·.add 0), z.toNat, m.c⟩ := by
      unfold SV.v
      simp only [Int.toNat_zero, Nat.zero_mul, Nat.sub_zero]
    rw [hx]
    obtain ⟨st2, hf2⟩ := hf.take z.toNat
    obtain ⟨d1, d2⟩ := CkB_fine n1 n2 hf2
    have hsub : RdF w0 M3 14 ⟨if m.c = 0 then m.a else m.a.map (·.add 0), z.toNat, m.c⟩ (evI (ms.take z.toNat)) := by
      rw [evI_take ms z.toNat (by omega)]
      exact hm3.sub0 (by omega)
    refine JCheck_ok hsub (by rw [List.length_take]; omega) fun M4 l4 => ?_
    rw [d1, d2]
    simp only [shT_v, shCons_v, shI_v, shNil_v]
    rw [show ((-1 : Int) != -1) = false from rfl, bs_false, show ((0 : Int) != 0) = false from rfl, bs_false]
    rw [H.J5]
    unfold wJ_JudgeTurned.J5.T
    have hm4 := hm3.le l4
    rw [bs_beq]
    split
    · refine known26_ok fun M5 l5 => ?_
      rw [shB_v]
      exact hR M5
    · rename_i hne
      rw [w64_in (by omega)]
      refine Within_ok ha (by omega) (by omega) (by omega) (by omega) fun q q1 q2 => ?_
      rw [shI_v]
      refine newE14 (Holds.emp0 (w0 := w0) (M := M4)) fun M5 x5 l5 h5 => ?_
      rw [shS_sv]
      refine copyEv h5 hm4 l5 (by omega) fun M6 x h6 => ?_
      rw [shS_sv]
      refine newE14 h6 fun M7 y7 l7 h7 => ?_
      rw [shS_sv]
      refine copyEv h7 hm4 h7.fr (by omega) fun M8 y h8 => ?_
      rw [shS_sv]
      have hql : q.toNat < ms.length := by omega
      have he := List.getElem?_eq_getElem hql
      generalize ms[q.toNat] = e at he
      have heok := ev_ok hm he
      have hwfm := hm.wf
      rw [evI_flat] at h8
      have hqq : q = ((q.toNat : Nat) : Int) := by omega
      generalize q.toNat = qn at hql he hqq
      subst hqq
      -- x
      obtain ⟨bx, hxa, hxn, hxi, hxr⟩ := Holds.adR EvC_len (by decide) h8.right he
      obtain ⟨by_, hya, hyn, hyi, hyr⟩ := Holds.adR EvC_len (by decide) h8 he
      have e9 : rd w0 M8 ⟨bx, qn * 14 + 9, none⟩ = some (.int .i64 e.r.time) := hxr 9 _ rfl
      simp only [hxa, hya, nc_v, Int.toNat_natCast, add_eq, Nat.zero_add, ld_one W.c2, Nat.add_assoc, Nat.reduceAdd, e9, ob_v, shI_v, bq_xor]
      refine ⟨⟨by omega, by omega⟩, ⟨by omega, by omega⟩, ?_⟩
      refine Holds.stR (P := PP) (c := EvC) (l := ms) (i := qn) (f := 9) EvC_len (by decide) W.c2 h8.rot he (x' := ⟨e.c, { e.r with time := xor1 e.r.time }, e.now, e.steps⟩) (by decide) rfl rfl rfl hxa fun M9 h9 => ?_
      obtain ⟨by2, hya2, _, _, hyr2⟩ := Holds.adR EvC_len (by decide) h9.right he
      rw [hya] at hya2; cases hya2
      have e12 : rd w0 M9 ⟨by_, qn * 14 + 12, none⟩ = some (.int .i64 e.now) := hyr2 12 _ rfl
      simp only [ld_one W.c2, e12, ob_v, shI_v, bq_xor]
      refine ⟨⟨by omega, by omega⟩, ⟨by omega, by omega⟩, ?_⟩
      refine Holds.stR (P := PP) (c := EvC) (l := ms) (i := qn) (f := 12) EvC_len (by decide) W.c2 h9.rot he (x' := ⟨e.c, e.r, xor1 e.now, e.steps⟩) (by decide) rfl rfl rfl hya fun M10 h10 => ?_
      rw [← evI_flat, ← evI_flat] at h10
      obtain ⟨⟨t1, t2⟩, t3, t4⟩ := CkB_turn n1 n2 hf he heok
      have hin : ∀ z ∈ e.ints, In64 z := heok
      have xok : Evt.ok ⟨e.c, { e.r with time := xor1 e.r.time }, e.now, e.steps⟩ := by
        refine ev14 (fun z hz => hin z ?_) (rep6 (hin _ (by simp [Evt.ints])) (hin _ (by simp [Evt.ints])) (hin _ (by simp [Evt.ints])) (xor1_in _) (hin _ (by simp [Evt.ints])) (hin _ (by simp [Evt.ints]))) (hin _ (by simp [Evt.ints])) (hin _ (by simp [Evt.ints]))
        have : e.ints = e.c.ints ++ (e.r.ints ++ [e.now, e.steps]) := rfl
        rw [this]; exact List.mem_append_left _ hz
      have yok : Evt.ok ⟨e.c, e.r, xor1 e.now, e.steps⟩ := by
        have : e.ints = e.c.ints ++ (e.r.ints ++ [e.now, e.steps]) := rfl
        refine ev14 (fun z hz => hin z ?_) (fun z hz => hin z ?_) (xor1_in _) (hin _ (by simp [Evt.ints]))
        · rw [this]; exact List.mem_append_left _ hz
        · rw [this]; exact List.mem_append_right _ (List.mem_append_left _ hz)
      have rx : RdF w0 M10 14 x (evI (ms.set qn ⟨e.c, { e.r with time := xor1 e.r.time }, e.now, e.steps⟩)) := Holds.rdF (by decide) h10.right (wf_set hwfm xok) (by omega)
      have ry : RdF w0 M10 14 y (evI (ms.set qn ⟨e.c, e.r, xor1 e.now, e.steps⟩)) := Holds.rdF (by decide) h10 (wf_set hwfm yok) (by omega)
      refine JCheck_ok rx (by rw [List.length_set]; omega) fun M11 l11 => ?_
      rw [t1, t2]
      simp only [shT_v, shCons_v, shI_v, shNil_v]
      refine JCheck_ok (ry.le l11) (by rw [List.length_set]; omega) fun M12 l12 => ?_
      rw [t3, t4]
      simp only [shT_v, shCons_v, shI_v, shNil_v]
      rw [bs_beq, if_pos rfl, show ((2 : Int) == 2) = true from rfl, bs_true, bs_beq, if_pos rfl, show ((3 : Int) == 3) = true from rfl, bs_true]
      refine known26_ok fun M13 l13 => ?_
      rw [shB_v]
      exact hR M13
  have hn := hs.len
  have hcap := hs.cap
  have key : ∀ (k i : Nat) (t : SV) (tl : List Int) (M' : Mem), i ≤ 40 → 40 < i + k → tl.length = i * 27 → (∀ x ∈ tl, In64 x) → (∀ j, j < i → tl[j * 27 + 11]? = some 0) → Holds w0 M M' (star (SlKA 27 t (vI tl)) emp) →
      wJ_JudgeTurned.L2 pts k s at_ cut n t (i : Int) M' := by
    intro k
    induction k with
    | zero => intro i t tl M' h1 h2; omega
    | succ k ih =>
      intro i t tl M' h1 h2 hlen hok h11 g
      have htn : t.n = i := by
        have := (slkCells g).2.1
        unfold vI at this
        rw [List.length_map, hlen] at this; omega
      have done : wJ_JudgeTurned.J1 pts at_ cut n t M' := keyJ1 M' t tl (Holds.rdF (by decide) g (wf_all hok) (by omega)) (fun j hj => h11 j (by omega))
      rw [H.L2]
      unfold wJ_JudgeTurned.L2.T
      rw [bs_decide]
      split
      · rename_i hin
        rw [bs_decide]
        split
        · rename_i hi4
          rw [H.J4]
          unfold wJ_JudgeTurned.J4.T
          obtain ⟨g27, hd27⟩ : ∃ g, DrawAt w0 M s i g := ⟨_, hs.draw (i := i) (by omega)⟩
          obtain ⟨a, ha2, hr⟩ := hd27.a
          have hw := hd27.w
          have hle : Mem.le M M' := g.fr
          have hbd : 0 ≤ (i : Int) ∧ (i : Int) < ((s.n : Nat) : Int) := ⟨by omega, by omega⟩
          have ldD : (std PP w0).ld 36 (a.add (i * 27)) M' = some (.agg #[.int .i64 (g27 0), .int .i64 (g27 1), .int .i64 (g27 2), .int .i64 (g27 3), .int .i64 (g27 4), .int .i64 (g27 5), .int .i64 (g27 6), .int .i64 (g27 7), .int .i64 (g27 8), .int .i64 (g27 9), .int .i64 (g27 10), .int .i64 (g27 11), .int .i64 (g27 12), .int .i64 (g27 13), .int .i64 (g27 14), .int .i64 (g27 15), .int .i64 (g27 16), .int .i64 (g27 17), .int .i64 (g27 18), .int .i64 (g27 19), .int .i64 (g27 20), .int .i64 (g27 21), .int .i64 (g27 22), .int .i64 (g27 23), .int .i64 (g27 24), .int .i64 (g27 25), .int .i64 (g27 26)]) := ld_agg (cs := [.int .i64 (g27 0), .int .i64 (g27 1), .int .i64 (g27 2), .int .i64 (g27 3), .int .i64 (g27 4), .int .i64 (g27 5), .int .i64 (g27 6), .int .i64 (g27 7), .int .i64 (g27 8), .int .i64 (g27 9), .int .i64 (g27 10), .int .i64 (g27 11), .int .i64 (g27 12), .int .i64 (g27 13), .int .i64 (g27 14), .int .i64 (g27 15), .int .i64 (g27 16), .int .i64 (g27 17), .int .i64 (g27 18), .int .i64 (g27 19), .int .i64 (g27 20), .int .i64 (g27 21), .int .i64 (g27 22), .int .i64 (g27 23), .int .i64 (g27 24), .int .i64 (g27 25), .int .i64 (g27 26)]) W.g36 (fun j v hj => by
            rw [add_add]
            match j, hj with
            | 0, hj => cases hj; exact hr M' hle 0 (by decide)
            | 1, hj => cases hj; exact hr M' hle 1 (by decide)
            | 2, hj => cases hj; exact hr M' hle 2 (by decide)
            | 3, hj => cases hj; exact hr M' hle 3 (by decide)
            | 4, hj => cases hj; exact hr M' hle 4 (by decide)
            | 5, hj => cases hj; exact hr M' hle 5 (by decide)
            | 6, hj => cases hj; exact hr M' hle 6 (by decide)
            | 7, hj => cases hj; exact hr M' hle 7 (by decide)
            | 8, hj => cases hj; exact hr M' hle 8 (by decide)
            | 9, hj => cases hj; exact hr M' hle 9 (by decide)
            | 10, hj => cases hj; exact hr M' hle 10 (by decide)
            | 11, hj => cases hj; exact hr M' hle 11 (by decide)
            | 12, hj => cases hj; exact hr M' hle 12 (by decide)
            | 13, hj => cases hj; exact hr M' hle 13 (by decide)
            | 14, hj => cases hj; exact hr M' hle 14 (by decide)
            | 15, hj => cases hj; exact hr M' hle 15 (by decide)
            | 16, hj => cases hj; exact hr M' hle 16 (by decide)
            | 17, hj => cases hj; exact hr M' hle 17 (by decide)
            | 18, hj => cases hj; exact hr M' hle 18 (by decide)
            | 19, hj => cases hj; exact hr M' hle 19 (by decide)
            | 20, hj => cases hj; exact hr M' hle 20 (by decide)
            | 21, hj => cases hj; exact hr M' hle 21 (by decide)
            | 22, hj => cases hj; exact hr M' hle 22 (by decide)
            | 23, hj => cases hj; exact hr M' hle 23 (by decide)
            | 24, hj => cases hj; exact hr M' hle 24 (by decide)
            | 25, hj => cases hj; exact hr M' hle 25 (by decide)
            | 26, hj => cases hj; exact hr M' hle 26 (by decide))
          simp only [ha2, nc_v, Int.toNat_natCast, ldD, ob_v, shA_v, shCons_v, shI_v, shNil_v]
          refine ⟨hbd, ?_⟩
          intro b hb0 hbw
          have g2 := Holds.new g hb0 hbw [.int .i64 0, .int .i64 0, .int .i64 0, .int .i64 0, .int .i64 0, .int .i64 0, .int .i64 0, .int .i64 0, .int .i64 0, .int .i64 0, .int .i64 0, .int .i64 0, .int .i64 0, .int .i64 0, .int .i64 0, .int .i64 0, .int .i64 0, .int .i64 0, .int .i64 0, .int .i64 0, .int .i64 0, .int .i64 0, .int .i64 0, .int .i64 0, .int .i64 0, .int .i64 0, .int .i64 0] 36
          generalize M'.set b _ = M2 at g2 ⊢
          have one : ∀ v ∈ ([.int .i64 (g27 0), .int .i64 (g27 1), .int .i64 (g27 2), .int .i64 (g27 3), .int .i64 (g27 4), .int .i64 (g27 5), .int .i64 (g27 6), .int .i64 (g27 7), .int .i64 (g27 8), .int .i64 (g27 9), .int .i64 (g27 10), .int .i64 (g27 11), .int .i64 (g27 12), .int .i64 (g27 13), .int .i64 (g27 14), .int .i64 (g27 15), .int .i64 (g27 16), .int .i64 (g27 17), .int .i64 (g27 18), .int .i64 (g27 19), .int .i64 (g27 20), .int .i64 (g27 21), .int .i64 (g27 22), .int .i64 (g27 23), .int .i64 (g27 24), .int .i64 (g27 25), .int .i64 (g27 26)] : List Value), onecell v = true := vI_one [g27 0, g27 1, g27 2, g27 3, g27 4, g27 5, g27 6, g27 7, g27 8, g27 9, g27 10, g27 11, g27 12, g27 13, g27 14, g27 15, g27 16, g27 17, g27 18, g27 19, g27 20, g27 21, g27 22, g27 23, g27 24, g27 25, g27 26]
          refine st_agg (vs := [.int .i64 (g27 0), .int .i64 (g27 1), .int .i64 (g27 2), .int .i64 (g27 3), .int .i64 (g27 4), .int .i64 (g27 5), .int .i64 (g27 6), .int .i64 (g27 7), .int .i64 (g27 8), .int .i64 (g27 9), .int .i64 (g27 10), .int .i64 (g27 11), .int .i64 (g27 12), .int .i64 (g27 13), .int .i64 (g27 14), .int .i64 (g27 15), .int .i64 (g27 16), .int .i64 (g27 17), .int .i64 (g27 18), .int .i64 (g27 19), .int .i64 (g27 20), .int .i64 (g27 21), .int .i64 (g27 22), .int .i64 (g27 23), .int .i64 (g27 24), .int .i64 (g27 25), .int .i64 (g27 26)]) W.g36 g2.own1 (by simp) one ?_
          have g3 := g2.upd1 (cs' := over [.int .i64 0, .int .i64 0, .int .i64 0, .int .i64 0, .int .i64 0, .int .i64 0, .int .i64 0, .int .i64 0, .int .i64 0, .int .i64 0, .int .i64 0, .int .i64 0, .int .i64 0, .int .i64 0, .int .i64 0, .int .i64 0, .int .i64 0, .int .i64 0, .int .i64 0, .int .i64 0, .int .i64 0, .int .i64 0, .int .i64 0, .int .i64 0, .int .i64 0, .int .i64 0, .int .i64 0] 0 [.int .i64 (g27 0), .int .i64 (g27 1), .int .i64 (g27 2), .int .i64 (g27 3), .int .i64 (g27 4), .int .i64 (g27 5), .int .i64 (g27 6), .int .i64 (g27 7), .int .i64 (g27 8), .int .i64 (g27 9), .int .i64 (g27 10), .int .i64 (g27 11), .int .i64 (g27 12), .int .i64 (g27 13), .int .i64 (g27 14), .int .i64 (g27 15), .int .i64 (g27 16), .int .i64 (g27 17), .int .i64 (g27 18), .int .i64 (g27 19), .int .i64 (g27 20), .int .i64 (g27 21), .int .i64 (g27 22), .int .i64 (g27 23), .int .i64 (g27 24), .int .i64 (g27 25), .int .i64 (g27 26)]) (e' := 36)
          have hov27 : over [.int .i64 0, .int .i64 0, .int .i64 0, .int .i64 0, .int .i64 0, .int .i64 0, .int .i64 0, .int .i64 0, .int .i64 0, .int .i64 0, .int .i64 0, .int .i64 0, .int .i64 0, .int .i64 0, .int .i64 0, .int .i64 0, .int .i64 0, .int .i64 0, .int .i64 0, .int .i64 0, .int .i64 0, .int .i64 0, .int .i64 0, .int .i64 0, .int .i64 0, .int .i64 0, .int .i64 0] 0 [.int .i64 (g27 0), .int .i64 (g27 1), .int .i64 (g27 2), .int .i64 (g27 3), .int .i64 (g27 4), .int .i64 (g27 5), .int .i64 (g27 6), .int .i64 (g27 7), .int .i64 (g27 8), .int .i64 (g27 9), .int .i64 (g27 10), .int .i64 (g27 11), .int .i64 (g27 12), .int .i64 (g27 13), .int .i64 (g27 14), .int .i64 (g27 15), .int .i64 (g27 16), .int .i64 (g27 17), .int .i64 (g27 18), .int .i64 (g27 19), .int .i64 (g27 20), .int .i64 (g27 21), .int .i64 (g27 22), .int .i64 (g27 23), .int .i64 (g27 24), .int .i64 (g27 25), .int .i64 (g27 26)] = [.int .i64 (g27 0), .int .i64 (g27 1), .int .i64 (g27 2), .int .i64 (g27 3), .int .i64 (g27 4), .int .i64 (g27 5), .int .i64 (g27 6), .int .i64 (g27 7), .int .i64 (g27 8), .int .i64 (g27 9), .int .i64 (g27 10), .int .i64 (g27 11), .int .i64 (g27 12), .int .i64 (g27 13), .int .i64 (g27 14), .int .i64 (g27 15), .int .i64 (g27 16), .int .i64 (g27 17), .int .i64 (g27 18), .int .i64 (g27 19), .int .i64 (g27 20), .int .i64 (g27 21), .int .i64 (g27 22), .int .i64 (g27 23), .int .i64 (g27 24), .int .i64 (g27 25), .int .i64 (g27 26)] := over_all (by simp only [List.length_cons, List.length_nil])
          rw [hov27] at g3 ⊢
          generalize M2.set b _ = M3 at g3 ⊢
          rw [show Addr.add ⟨b, 0, none⟩ 11 = ⟨b, 11, none⟩ from by rw [add_eq]]
          refine st_one W.c3 g3.own1 (by simp) rfl rfl ?_
          have g4 := g3.upd1 (cs' := [.int .i64 (g27 0), .int .i64 (g27 1), .int .i64 (g27 2), .int .i64 (g27 3), .int .i64 (g27 4), .int .i64 (g27 5), .int .i64 (g27 6), .int .i64 (g27 7), .int .i64 (g27 8), .int .i64 (g27 9), .int .i64 (g27 10), .int .i64 0, .int .i64 (g27 12), .int .i64 (g27 13), .int .i64 (g27 14), .int .i64 (g27 15), .int .i64 (g27 16), .int .i64 (g27 17), .int .i64 (g27 18), .int .i64 (g27 19), .int .i64 (g27 20), .int .i64 (g27 21), .int .i64 (g27 22), .int .i64 (g27 23), .int .i64 (g27 24), .int .i64 (g27 25), .int .i64 (g27 26)]) (e' := 36)
          rw [show ([.int .i64 (g27 0), .int .i64 (g27 1), .int .i64 (g27 2), .int .i64 (g27 3), .int .i64 (g27 4), .int .i64 (g27 5), .int .i64 (g27 6), .int .i64 (g27 7), .int .i64 (g27 8), .int .i64 (g27 9), .int .i64 (g27 10), .int .i64 (g27 11), .int .i64 (g27 12), .int .i64 (g27 13), .int .i64 (g27 14), .int .i64 (g27 15), .int .i64 (g27 16), .int .i64 (g27 17), .int .i64 (g27 18), .int .i64 (g27 19), .int .i64 (g27 20), .int .i64 (g27 21), .int .i64 (g27 22), .int .i64 (g27 23), .int .i64 (g27 24), .int .i64 (g27 25), .int .i64 (g27 26)] : List Value).set 11 (.int .i64 0) = [.int .i64 (g27 0), .int .i64 (g27 1), .int .i64 (g27 2), .int .i64 (g27 3), .int .i64 (g27 4), .int .i64 (g27 5), .int .i64 (g27 6), .int .i64 (g27 7), .int .i64 (g27 8), .int .i64 (g27 9), .int .i64 (g27 10), .int .i64 0, .int .i64 (g27 12), .int .i64 (g27 13), .int .i64 (g27 14), .int .i64 (g27 15), .int .i64 (g27 16), .int .i64 (g27 17), .int .i64 (g27 18), .int .i64 (g27 19), .int .i64 (g27 20), .int .i64 (g27 21), .int .i64 (g27 22), .int .i64 (g27 23), .int .i64 (g27 24), .int .i64 (g27 25), .int .i64 (g27 26)] from rfl]
          generalize M3.set b _ = M4 at g4 ⊢
          have o4 := g4.own1
          rw [ld_agg (cs := [.int .i64 (g27 0), .int .i64 (g27 1), .int .i64 (g27 2), .int .i64 (g27 3), .int .i64 (g27 4), .int .i64 (g27 5), .int .i64 (g27 6), .int .i64 (g27 7), .int .i64 (g27 8), .int .i64 (g27 9), .int .i64 (g27 10), .int .i64 0, .int .i64 (g27 12), .int .i64 (g27 13), .int .i64 (g27 14), .int .i64 (g27 15), .int .i64 (g27 16), .int .i64 (g27 17), .int .i64 (g27 18), .int .i64 (g27 19), .int .i64 (g27 20), .int .i64 (g27 21), .int .i64 (g27 22), .int .i64 (g27 23), .int .i64 (g27 24), .int .i64 (g27 25), .int .i64 (g27 26)]) W.g36 (fun j v hj => by rw [add_eq, rd_own o4, Nat.zero_add]; exact hj)]
          simp only [ob_v, shA_v, shCons_v, shI_v, shNil_v]
          refine bsl_e (n := 1) (cells := #[.int .i64 (g27 0), .int .i64 (g27 1), .int .i64 (g27 2), .int .i64 (g27 3), .int .i64 (g27 4), .int .i64 (g27 5), .int .i64 (g27 6), .int .i64 (g27 7), .int .i64 (g27 8), .int .i64 (g27 9), .int .i64 (g27 10), .int .i64 0, .int .i64 (g27 12), .int .i64 (g27 13), .int .i64 (g27 14), .int .i64 (g27 15), .int .i64 (g27 16), .int .i64 (g27 17), .int .i64 (g27 18), .int .i64 (g27 19), .int .i64 (g27 20), .int .i64 (g27 21), .int .i64 (g27 22), .int .i64 (g27 23), .int .i64 (g27 24), .int .i64 (g27 25), .int .i64 (g27 26)]) Try.underlying22 W.e36 (by decide) (by kernel_rfl) fun bs_ hbs hbsw => ?_
          have l5 : Mem.le M4 (M4.set bs_ (.row (#[.int .i64 (g27 0), .int .i64 (g27 1), .int .i64 (g27 2), .int .i64 (g27 3), .int .i64 (g27 4), .int .i64 (g27 5), .int .i64 (g27 6), .int .i64 (g27 7), .int .i64 (g27 8), .int .i64 (g27 9), .int .i64 (g27 10), .int .i64 0, .int .i64 (g27 12), .int .i64 (g27 13), .int .i64 (g27 14), .int .i64 (g27 15), .int .i64 (g27 16), .int .i64 (g27 17), .int .i64 (g27 18), .int .i64 (g27 19), .int .i64 (g27 20), .int .i64 (g27 21), .int .i64 (g27 22), .int .i64 (g27 23), .int .i64 (g27 24), .int .i64 (g27 25), .int .i64 (g27 26)] : Array Value).toList 36)) := Mem.le_set _ hbs
          have h5 := Holds.newSlk (k := 27) (s := ⟨some ⟨bs_, 0, none⟩, 1, 1⟩) (l := [.int .i64 (g27 0), .int .i64 (g27 1), .int .i64 (g27 2), .int .i64 (g27 3), .int .i64 (g27 4), .int .i64 (g27 5), .int .i64 (g27 6), .int .i64 (g27 7), .int .i64 (g27 8), .int .i64 (g27 9), .int .i64 (g27 10), .int .i64 0, .int .i64 (g27 12), .int .i64 (g27 13), .int .i64 (g27 14), .int .i64 (g27 15), .int .i64 (g27 16), .int .i64 (g27 17), .int .i64 (g27 18), .int .i64 (g27 19), .int .i64 (g27 20), .int .i64 (g27 21), .int .i64 (g27 22), .int .i64 (g27 23), .int .i64 (g27 24), .int .i64 (g27 25), .int .i64 (g27 26)]) g4 l5 (SlK.new (n := 1) hbs (Own.new hbsw) rfl)
          generalize M4.set bs_ _ = M5 at h5 l5 ⊢
          rw [shS_v]
          have e5 := slkCells h5
          refine appK (x := ⟨some ⟨bs_, 0, none⟩, 1, 1⟩) Try.underlying22 W.e36 (Holds.mdr3 h5) e5.2.1 e5.1 e5.2.2 (vI_one [g27 0, g27 1, g27 2, g27 3, g27 4, g27 5, g27 6, g27 7, g27 8, g27 9, g27 10, 0, g27 12, g27 13, g27 14, g27 15, g27 16, g27 17, g27 18, g27 19, g27 20, g27 21, g27 22, g27 23, g27 24, g27 25, g27 26]) (by decide) (by simp only; omega) fun M6 t6 h6 => ?_
          rw [shS_sv, i64_succ (by omega)]
          have hvv : vI tl ++ ([.int .i64 (g27 0), .int .i64 (g27 1), .int .i64 (g27 2), .int .i64 (g27 3), .int .i64 (g27 4), .int .i64 (g27 5), .int .i64 (g27 6), .int .i64 (g27 7), .int .i64 (g27 8), .int .i64 (g27 9), .int .i64 (g27 10), .int .i64 0, .int .i64 (g27 12), .int .i64 (g27 13), .int .i64 (g27 14), .int .i64 (g27 15), .int .i64 (g27 16), .int .i64 (g27 17), .int .i64 (g27 18), .int .i64 (g27 19), .int .i64 (g27 20), .int .i64 (g27 21), .int .i64 (g27 22), .int .i64 (g27 23), .int .i64 (g27 24), .int .i64 (g27 25), .int .i64 (g27 26)] : List Value) = vI (tl ++ [g27 0, g27 1, g27 2, g27 3, g27 4, g27 5, g27 6, g27 7, g27 8, g27 9, g27 10, 0, g27 12, g27 13, g27 14, g27 15, g27 16, g27 17, g27 18, g27 19, g27 20, g27 21, g27 22, g27 23, g27 24, g27 25, g27 26]) := by unfold vI; rw [List.map_append]; rfl
          rw [hvv] at h6
          have hlz : ([g27 0, g27 1, g27 2, g27 3, g27 4, g27 5, g27 6, g27 7, g27 8, g27 9, g27 10, 0, g27 12, g27 13, g27 14, g27 15, g27 16, g27 17, g27 18, g27 19, g27 20, g27 21, g27 22, g27 23, g27 24, g27 25, g27 26] : List Int).length = 27 := rfl
          refine ih (i + 1) t6 (tl ++ [g27 0, g27 1, g27 2, g27 3, g27 4, g27 5, g27 6, g27 7, g27 8, g27 9, g27 10, 0, g27 12, g27 13, g27 14, g27 15, g27 16, g27 17, g27 18, g27 19, g27 20, g27 21, g27 22, g27 23, g27 24, g27 25, g27 26]) M6 (by omega) (by omega) (by rw [List.length_append, hlz, hlen]; omega) (fun x hx => ?_) (fun j hj => ?_) ?_
          · rcases List.mem_append.1 hx with hx | hx
            · exact hok x hx
            · simp only [List.mem_cons, List.not_mem_nil, or_false] at hx
              rcases hx with rfl | rfl | rfl | rfl | rfl | rfl | rfl | rfl | rfl | rfl | rfl | rfl | rfl | rfl | rfl | rfl | rfl | rfl | rfl | rfl | rfl | rfl | rfl | rfl | rfl | rfl | rfl
              · exact hw 0 (by decide)
              · exact hw 1 (by decide)
              · exact hw 2 (by decide)
              · exact hw 3 (by decide)
              · exact hw 4 (by decide)
              · exact hw 5 (by decide)
              · exact hw 6 (by decide)
              · exact hw 7 (by decide)
              · exact hw 8 (by decide)
              · exact hw 9 (by decide)
              · exact hw 10 (by decide)
              · exact z64
              · exact hw 12 (by decide)
              · exact hw 13 (by decide)
              · exact hw 14 (by decide)
              · exact hw 15 (by decide)
              · exact hw 16 (by decide)
              · exact hw 17 (by decide)
              · exact hw 18 (by decide)
              · exact hw 19 (by decide)
              · exact hw 20 (by decide)
              · exact hw 21 (by decide)
              · exact hw 22 (by decide)
              · exact hw 23 (by decide)
              · exact hw 24 (by decide)
              · exact hw 25 (by decide)
              · exact hw 26 (by decide)
          · by_cases hji : j < i
            · rw [List.getElem?_append_left (by omega)]; exact h11 j hji
            · have hji2 : j = i := by omega
              subst hji2
              rw [List.getElem?_append_right (by omega), show j * 27 + 11 - tl.length = 11 from by omega]; rfl
          · obtain ⟨F1, k1, _, k2⟩ := h6.last
            exact k2 _ _ k1.right.right
        · exact done
      · exact done
  exact ⟨_, key 41 0 ⟨none, 0, 0⟩ [] M (by omega) (by omega) rfl (fun x hx => by cases hx) (fun j hj => by omega) (Holds.nilSlk (k := 27) (Holds.emp0 (w0 := w0) (M := M)))⟩
end
end Go.Proofs.Ytedofpnjmnkedaa.HL
