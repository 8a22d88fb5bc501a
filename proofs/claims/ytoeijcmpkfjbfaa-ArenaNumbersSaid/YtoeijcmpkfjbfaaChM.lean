/-
  ChM: rings of cells, in plain Lean, with no program in sight.
-/
import Derived.Test.YtoeijcmpkfjbfaaArM
set_option linter.unusedVariables false
set_option linter.unusedSimpArgs false
namespace Go.Proofs.Ytoeijcmpkfjbfaa.HL

theorem nodup_len : ∀ (n : Nat) (l : List Nat), l.Nodup → (∀ x ∈ l, x < n) → l.length ≤ n := by
  intro n
  induction n with
  | zero =>
    intro l _ h
    cases l with
    | nil => exact Nat.le_refl _
    | cons x r => have := h x List.mem_cons_self; omega
  | succ n ih =>
    intro l hn h
    by_cases hm : n ∈ l
    · have h1 := ih (l.erase n) (hn.erase n) (fun x hx => by
        have h2 := (hn.mem_erase_iff).1 hx
        have := h x h2.2; omega)
      rw [List.length_erase_of_mem hm] at h1; omega
    · have := ih l hn (fun x hx => by
        have h1 := h x hx
        have h2 : x ≠ n := fun e => hm (e ▸ hx)
        omega)
      omega

namespace AS
/-- One is next behind the other. -/
def Nx (α : AS) (x y : Nat) : Prop := α.get x 3 = (y : Int) ∧ α.get y 2 = (x : Int)
def seg (α : AS) : List Nat → Prop
  | [] => True
  | [_] => True
  | x :: y :: r => α.Nx x y ∧ seg α (y :: r)
/-- A ring, from its first cell on. -/
structure Ring (α : AS) (c : Nat) (r : List Nat) : Prop where
  nd : (c :: r).Nodup
  live : ∀ x ∈ c :: r, α.live x = true
  seg : α.seg (c :: r)
  back : α.Nx (r.getLastD c) c

theorem seg_congr {α β : AS} : ∀ (l : List Nat), (∀ x ∈ l, β.get x 3 = α.get x 3) → (∀ x ∈ l, β.get x 2 = α.get x 2) → α.seg l → β.seg l
  | [], _, _, _ => trivial
  | [_], _, _, _ => trivial
  | x :: y :: r, h1, h2, h => by
    refine ⟨⟨?_, ?_⟩, seg_congr (y :: r) (fun z hz => h1 z (List.mem_cons_of_mem _ hz)) (fun z hz => h2 z (List.mem_cons_of_mem _ hz)) h.2⟩
    · rw [h1 x (by simp)]; exact h.1.1
    · rw [h2 y (by simp)]; exact h.1.2
theorem last_mem (c : Nat) : ∀ (r : List Nat), r.getLastD c ∈ c :: r := by
  intro r
  induction r generalizing c with
  | nil => simp
  | cons x r ih => rw [List.getLastD_cons]; exact List.mem_cons_of_mem _ (ih x)
/-- Beginning and end may change outwards. -/
theorem seg_inner {α β : AS} : ∀ (c : Nat) (r : List Nat), (∀ x ∈ c :: r, x ≠ r.getLastD c → β.get x 3 = α.get x 3) → (∀ x ∈ r, β.get x 2 = α.get x 2) → (c :: r).Nodup → α.seg (c :: r) → β.seg (c :: r)
  | _, [], _, _, _, _ => trivial
  | x, y :: r, h1, h2, hn, h => by
    simp only [List.nodup_cons] at hn
    have hlast : x ≠ (y :: r).getLastD x := by
      intro e
      have : (y :: r).getLastD x ∈ y :: r := by
        rw [List.getLastD_cons]; exact last_mem y r
      rw [← e] at this
      exact hn.1 this
    refine ⟨⟨?_, ?_⟩, seg_inner y r (fun z hz hne => h1 z (List.mem_cons_of_mem _ hz) (by rwa [List.getLastD_cons])) (fun z hz => h2 z (List.mem_cons_of_mem _ hz)) (by simpa only [List.nodup_cons] using hn.2) h.2⟩
    · rw [h1 x (by simp) hlast]; exact h.1.1
    · rw [h2 y (by simp)]; exact h.1.2
theorem seg_append {α : AS} : ∀ (c : Nat) (r : List Nat) (d : Nat) (s : List Nat), α.seg (c :: r ++ d :: s) ↔ α.seg (c :: r) ∧ α.Nx (r.getLastD c) d ∧ α.seg (d :: s)
  | c, [], d, s => by simp [seg]
  | c, x :: r, d, s => by
    have := seg_append (α := α) x r d s
    rw [List.getLastD_cons]
    show α.Nx c x ∧ α.seg (x :: r ++ d :: s) ↔ (α.Nx c x ∧ α.seg (x :: r)) ∧ _
    rw [this, and_assoc]
theorem last_append (c d : Nat) (r s : List Nat) : (r ++ d :: s).getLastD c = s.getLastD d := by
  induction r generalizing c with
  | nil => rw [List.nil_append, List.getLastD_cons]
  | cons x r ih => rw [List.cons_append, List.getLastD_cons]; exact ih x

theorem Ring.turn {α : AS} {c d : Nat} {r s : List Nat} (h : α.Ring c (r ++ d :: s)) : α.Ring d (s ++ c :: r) := by
  have hs := (seg_append c r d s).1 h.seg
  have hb := h.back
  rw [last_append] at hb
  have hp : (c :: (r ++ d :: s)).Perm (d :: (s ++ c :: r)) := List.perm_append_comm (l₁ := c :: r) (l₂ := d :: s)
  refine ⟨hp.nodup_iff.1 h.nd, fun x hx => h.live x (hp.mem_iff.2 hx), (seg_append d s c r).2 ⟨hs.2.2, hb, hs.1⟩, ?_⟩
  rw [last_append]; exact hs.2.1
theorem Ring.congr {α β : AS} {c : Nat} {r : List Nat} (h : α.Ring c r) (h3 : ∀ x ∈ c :: r, β.get x 3 = α.get x 3) (h2 : ∀ x ∈ c :: r, β.get x 2 = α.get x 2) (hl : ∀ x ∈ c :: r, β.live x = α.live x) : β.Ring c r :=
  ⟨h.nd, fun x hx => by rw [hl x hx]; exact h.live x hx, seg_congr _ h3 h2 h.seg, by
    refine ⟨?_, ?_⟩
    · rw [h3 _ (last_mem c r)]; exact h.back.1
    · rw [h2 c List.mem_cons_self]; exact h.back.2⟩

/-- c's right is d, d's left is c. -/
def link (α : AS) (c d : Nat) : AS := (α.put c 3 d).put d 2 c
theorem link3 (α : AS) (c d x : Nat) : (α.link c d).get x 3 = if x = c then (d : Int) else α.get x 3 := by
  show (if x = d ∧ 3 = 2 then (c : Int) else if x = c ∧ 3 = 3 then (d : Int) else α.get x 3) = _
  rw [if_neg (by simp)]
  by_cases h : x = c
  · rw [if_pos ⟨h, rfl⟩, if_pos h]
  · rw [if_neg (fun e => h e.1), if_neg h]
theorem link2 (α : AS) (c d x : Nat) : (α.link c d).get x 2 = if x = d then (c : Int) else α.get x 2 := by
  show (if x = d ∧ 2 = 2 then (c : Int) else if x = c ∧ 2 = 3 then (d : Int) else α.get x 2) = _
  by_cases h : x = d
  · rw [if_pos ⟨h, rfl⟩, if_pos h]
  · rw [if_neg (fun e => h e.1), if_neg h, if_neg (by simp)]
theorem link_n (α : AS) (c d : Nat) : (α.link c d).n = α.n := rfl
theorem link_live (α : AS) (c d : Nat) : (α.link c d).live = α.live := rfl

theorem ring_one {α : AS} {c : Nat} (h : α.live c = true) : (α.link c c).Ring c [] :=
  ⟨by simp, fun x hx => by simp at hx; subst hx; exact h, trivial, by
    refine ⟨?_, ?_⟩
    · show (α.link c c).get c 3 = _
      rw [link3, if_pos rfl]
    · rw [link2, if_pos rfl]; rfl⟩

/-- d is put next behind c; what was next is next behind d. -/
theorem ring_put {α : AS} {c d : Nat} {r : List Nat} (h : α.Ring c r) (hd : d ∉ c :: r) (hl : α.live d = true) : ((α.link c d).link d (r.headD c)).Ring c (d :: r) := by
  have hnd : (c :: d :: r).Nodup := by
    have := h.nd
    simp only [List.nodup_cons, List.mem_cons, not_or] at this hd ⊢
    exact ⟨⟨fun e => hd.1 e.symm, this.1⟩, hd.2, this.2⟩
  have hcd : c ≠ d := fun e => hd (by simp [e])
  have hlv : ∀ x ∈ c :: d :: r, ((α.link c d).link d (r.headD c)).live x = true := by
    intro x hx
    rw [link_live, link_live]
    rcases List.mem_cons.1 hx with rfl | hx
    · exact h.live x List.mem_cons_self
    · rcases List.mem_cons.1 hx with rfl | hx
      · exact hl
      · exact h.live x (List.mem_cons_of_mem _ hx)
  have hR : ((α.link c d).link d (r.headD c)).Nx c d := by
    refine ⟨?_, ?_⟩
    · rw [link3, if_neg hcd, link3, if_pos rfl]
    · rw [link2, link2, if_pos rfl]
      split
      · rename_i e
        exfalso
        cases r with
        | nil => exact hcd e.symm
        | cons y q => exact hd (by simp only [List.headD_cons] at e; simp [e])
      · rfl
  match r, h, hd, hnd, hlv, hR with
  | [], h, hd, hnd, hlv, hR =>
    refine ⟨hnd, hlv, ⟨hR, trivial⟩, ?_⟩
    show Nx _ d c
    refine ⟨?_, ?_⟩
    · rw [link3, if_pos rfl]; rfl
    · rw [link2, List.headD_nil, if_pos rfl]
  | y :: q, h, hd, hnd, hlv, hR =>
    have hseg : α.seg (y :: q) := h.seg.2
    have hndq := hnd
    simp only [List.nodup_cons, List.mem_cons, not_or] at hndq
    refine ⟨hnd, hlv, ⟨hR, ⟨?_, ?_⟩, ?_⟩, ?_⟩
    · rw [link3, if_pos rfl]; rfl
    · rw [link2, List.headD_cons, if_pos rfl]
    · refine seg_inner (α := α) y q (fun x hx _ => ?_) (fun x hx => ?_) h.nd.tail hseg
      · have h1 : x ≠ d := fun e => hd (by rw [← e]; exact List.mem_cons_of_mem _ hx)
        have h2 : x ≠ c := fun e => (List.nodup_cons.1 h.nd).1 (by rw [← e]; exact hx)
        rw [link3, if_neg h1, link3, if_neg h2]
      · have h1 : x ≠ d := fun e => hd (by rw [← e]; simp [hx])
        have h2 : x ≠ y := fun e => (List.nodup_cons.1 h.nd.tail).1 (by rw [← e]; exact hx)
        rw [link2, List.headD_cons, if_neg h2, link2, if_neg h1]
    · rw [List.getLastD_cons, List.getLastD_cons]
      have hb := h.back
      rw [List.getLastD_cons] at hb
      have hm := last_mem y q
      have h1 : q.getLastD y ≠ d := fun e => hd (by rw [← e]; exact List.mem_cons_of_mem _ hm)
      have h2 : q.getLastD y ≠ c := fun e => (List.nodup_cons.1 h.nd).1 (by rw [← e]; exact hm)
      refine ⟨?_, ?_⟩
      · rw [link3, if_neg h1, link3, if_neg h2]; exact hb.1
      · rw [link2, List.headD_cons, if_neg (fun e => (List.nodup_cons.1 h.nd).1 (by rw [e]; simp)), link2, if_neg hcd]; exact hb.2

/-- Two rings become one. -/
theorem ring_join {α : AS} {c d : Nat} {r s : List Nat} (h : α.Ring c r) (k : α.Ring d s) (hd : ∀ x ∈ d :: s, x ∉ c :: r) : ((α.link c d).link (s.getLastD d) (r.headD c)).Ring c (d :: s ++ r) := by
  have hp : (c :: (d :: s ++ r)).Perm ((c :: r) ++ (d :: s)) := List.Perm.cons _ List.perm_append_comm
  have hnd : (c :: (d :: s ++ r)).Nodup := hp.nodup_iff.2 (by
    rw [List.nodup_append]
    exact ⟨h.nd, k.nd, fun a ha b hb e => hd b hb (by rw [← e]; exact ha)⟩)
  have hcd : c ≠ d := fun e => hd d List.mem_cons_self (by simp [e])
  have hlast := last_mem d s
  have hlc : s.getLastD d ∉ c :: r := hd _ hlast
  have hlc' : s.getLastD d ≠ c := fun e => hlc (by rw [e]; simp)
  have hheadm : r.headD c ∈ c :: r := by cases r <;> simp
  have hheadd : ∀ x ∈ d :: s, x ≠ r.headD c := fun x hx e => hd x hx (by rw [e]; exact hheadm)
  have hlv : ∀ x ∈ c :: (d :: s ++ r), ((α.link c d).link (s.getLastD d) (r.headD c)).live x = true := by
    intro x hx
    rw [link_live, link_live]
    rcases List.mem_append.1 (hp.mem_iff.1 hx) with hx | hx
    · exact h.live x hx
    · exact k.live x hx
  have hR : ((α.link c d).link (s.getLastD d) (r.headD c)).Nx c d := by
    refine ⟨?_, ?_⟩
    · rw [link3, if_neg (Ne.symm hlc'), link3, if_pos rfl]
    · rw [link2, if_neg (hheadd d List.mem_cons_self), link2, if_pos rfl]
  have hR2 : ((α.link c d).link (s.getLastD d) (r.headD c)).Nx (s.getLastD d) (r.headD c) := ⟨by rw [link3, if_pos rfl], by rw [link2, if_pos rfl]⟩
  have hsd : ((α.link c d).link (s.getLastD d) (r.headD c)).seg (d :: s) := by
    refine seg_inner (α := α) d s (fun x hx hne => ?_) (fun x hx => ?_) k.nd k.seg
    · rw [link3, if_neg hne, link3, if_neg (fun e => hd x hx (by rw [e]; simp))]
    · rw [link2, if_neg (hheadd x (List.mem_cons_of_mem _ hx)), link2, if_neg (fun e => (List.nodup_cons.1 k.nd).1 (by rw [← e]; exact hx))]
  match r, h, hd, hnd, hlc, hheadm, hheadd, hlv, hR, hR2, hsd with
  | [], h, hd, hnd, hlc, hheadm, hheadd, hlv, hR, hR2, hsd =>
    refine ⟨hnd, hlv, ?_, ?_⟩
    · rw [List.append_nil]
      exact ⟨hR, hsd⟩
    · rw [List.append_nil, List.getLastD_cons]; exact hR2
  | y :: q, h, hd, hnd, hlc, hheadm, hheadd, hlv, hR, hR2, hsd =>
    have hndc := List.nodup_cons.1 h.nd
    refine ⟨hnd, hlv, ⟨hR, (seg_append d s y q).2 ⟨hsd, hR2, ?_⟩⟩, ?_⟩
    · refine seg_inner (α := α) y q (fun x hx _ => ?_) (fun x hx => ?_) hndc.2 h.seg.2
      · rw [link3, if_neg (fun e => hlc (by rw [← e]; exact List.mem_cons_of_mem _ hx)), link3, if_neg (fun e => hndc.1 (by rw [← e]; exact hx))]
      · rw [link2, List.headD_cons, if_neg (fun e => (List.nodup_cons.1 hndc.2).1 (by rw [← e]; exact hx)), link2, if_neg (fun e => hd x (by rw [e]; simp) (by simp [hx]))]
    · rw [show (d :: s ++ y :: q).getLastD c = q.getLastD y from last_append c y (d :: s) q]
      have hb := h.back
      rw [List.getLastD_cons] at hb
      have hm := last_mem y q
      refine ⟨?_, ?_⟩
      · rw [link3, if_neg (fun e => hlc (by rw [← e]; exact List.mem_cons_of_mem _ hm)), link3, if_neg (fun e => hndc.1 (by rw [← e]; exact hm))]; exact hb.1
      · rw [link2, List.headD_cons, if_neg (fun e => hndc.1 (by rw [e]; simp)), link2, if_neg hcd]; exact hb.2

/-- A cell is taken out. -/
theorem ring_out {α : AS} {c y : Nat} {r : List Nat} (h : α.Ring c (y :: r)) : ((α.link (r.getLastD y) y).link c c).Ring y r ∧ ((α.link (r.getLastD y) y).link c c).Ring c [] := by
  have hnd := List.nodup_cons.1 h.nd
  have hc : ∀ x ∈ y :: r, x ≠ c := fun x hx e => hnd.1 (by rw [← e]; exact hx)
  refine ⟨⟨hnd.2, fun x hx => by rw [link_live, link_live]; exact h.live x (List.mem_cons_of_mem _ hx), ?_, ?_⟩, ring_one (by rw [link_live]; exact h.live c List.mem_cons_self)⟩
  · refine seg_inner (α := α) y r (fun x hx hne => ?_) (fun x hx => ?_) hnd.2 h.seg.2
    · rw [link3, if_neg (hc x hx), link3, if_neg hne]
    · rw [link2, if_neg (hc x (List.mem_cons_of_mem _ hx)), link2, if_neg (fun e => (List.nodup_cons.1 hnd.2).1 (by rw [← e]; exact hx))]
  · refine ⟨?_, ?_⟩
    · rw [link3, if_neg (hc _ (last_mem y r)), link3, if_pos rfl]
    · rw [link2, if_neg (hc y List.mem_cons_self), link2, if_pos rfl]

theorem Ring.right {α : AS} {c : Nat} {r : List Nat} (h : α.Ring c r) : α.get c 3 = ((r.headD c : Nat) : Int) := by
  cases r with
  | nil => exact h.back.1
  | cons y q => exact h.seg.1.1
theorem Ring.left {α : AS} {c : Nat} {r : List Nat} (h : α.Ring c r) : α.get c 2 = ((r.getLastD c : Nat) : Int) := h.back.2
end AS

end Go.Proofs.Ytoeijcmpkfjbfaa.HL
