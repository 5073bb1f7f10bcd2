/- Proved: what a step does to memory: a new block, a block that turns, a block that is given up. No function of the program is walked here. -/
import Derived.Test.YtdimeaooekhkhaaGreatAxList
import Derived.Laws.CopyRow
set_option linter.unusedVariables false
set_option linter.unusedSimpArgs false
namespace Go.Proofs.YtdimeaooekhkhaaGreat.AX
open Go.RowKit

def EntsR (E : Env) (ρ : Ren) : List Ent → List MapEntry → Prop
  | [], [] => True
  | e :: l, m :: l' => VR E ρ e.key m.key ∧ VR E ρ e.val m.val ∧ m.born = e.born ∧ EntsR E ρ l l'
  | _, _ => False
/-- how many cells a row has: as many as are known, or room for c elements -/
def rowSz (op : Option Nat) (size c len : Nat) : Prop := match op with | none => size = len | some s => size = c * s ∧ c ≤ maxLen
/-- a runner's block tells an object; c: how many elements there is room for -/
def OR (E : Env) (ρ : Ren) : Blk → Nat → Obj → Prop
  | .row cs _ o, c, x => ∃ vs t fz, x = .cells vs t fz ∧ (∀ j, j < vs.size → ¬(fz.1 ≤ j ∧ j < fz.2)) ∧ VRs E ρ cs (vs.toList.take cs.length) ∧ cs.length ≤ vs.size ∧
      rowSz o vs.size c cs.length
  | .map es clock, _, x => ∃ ms, x = .map ms clock ∧ EntsR E ρ es ms.toList
  | .mit none _, _, x => x = .mapIter none 0 #[] 0
  | .mit (some r) k, _, x => ∃ g c, ρ r = some (g, c) ∧ x = .mapIter (some g) k #[] k
/-- the runner's memory tells a world's; a block that has no place there yet is not looked at -/
structure HR (E : Env) (B : Nat) (ρ : Ren) (S : St) (w : World) : Prop where
  base : B ≤ w.heap.size
  blk : ∀ b k g c, S.heap.get b = some k → ρ b = some (g, c) → B ≤ g ∧ ∃ o, w.heap[g]? = some o ∧ OR E ρ k c o
  inj : ∀ b b' k k' g c c', S.heap.get b = some k → S.heap.get b' = some k' → ρ b = some (g, c) → ρ b' = some (g, c') → b = b'
  next : ∀ b x, ρ b = some x → b < S.next
  fresh : ∀ b k, S.heap.get b = some k → b < S.next
/-- what a step keeps -/
structure Ext (B : Nat) (ρ : Ren) (S : St) (w : World) (ρ' : Ren) (S' : St) (w' : World) : Prop where
  le : ρ.le ρ'
  pend : ∀ b, b < S.next → ρ b = none → ρ' b = none ∧ S'.heap.get b = S.heap.get b
  nx : S.next ≤ S'.next
  below : Below B w w'

theorem Ext.refl (B : Nat) (ρ : Ren) (S : St) (w : World) : Ext B ρ S w ρ S w := ⟨Ren.le.refl ρ, fun _ _ h => ⟨h, rfl⟩, Nat.le_refl _, Below.refl B w⟩
theorem Ext.trans {B : Nat} {ρ ρ₁ ρ₂ : Ren} {S S₁ S₂ : St} {w w₁ w₂ : World} (h : Ext B ρ S w ρ₁ S₁ w₁) (k : Ext B ρ₁ S₁ w₁ ρ₂ S₂ w₂) : Ext B ρ S w ρ₂ S₂ w₂ :=
  ⟨h.le.trans k.le, fun b hb hn => by
    obtain ⟨h1, h2⟩ := h.pend b hb hn
    obtain ⟨h3, h4⟩ := k.pend b (Nat.lt_of_lt_of_le hb h.nx) h1
    exact ⟨h3, h4.trans h2⟩, Nat.le_trans h.nx k.nx, h.below.trans k.below⟩

theorem EntsR.mono {E : Env} {ρ ρ' : Ren} (h : ρ.le ρ') : ∀ {l : List Ent} {m : List MapEntry}, EntsR E ρ l m → EntsR E ρ' l m
  | [], [], _ => trivial
  | _ :: _, _ :: _, ⟨h1, h2, h3, h4⟩ => ⟨h1.mono h, h2.mono h, h3, h4.mono h⟩
theorem OR.mono {E : Env} {ρ ρ' : Ren} (h : ρ.le ρ') {k : Blk} {c : Nat} {o : Obj} (ho : OR E ρ k c o) : OR E ρ' k c o := by
  cases k with
  | row cs e op => obtain ⟨vs, t, fz, h1, h2, h3, h4, h5⟩ := ho; exact ⟨vs, t, fz, h1, h2, h3.mono h, h4, h5⟩
  | map es cl => obtain ⟨ms, h1, h2⟩ := ho; exact ⟨ms, h1, h2.mono h⟩
  | mit r k => cases r with
    | none => exact ho
    | some r => obtain ⟨g, c, h1, h2⟩ := ho; exact ⟨g, c, h _ _ h1, h2⟩

def Ren.add (ρ : Ren) (n : Nat) (x : Nat × Nat) : Ren := fun b => if b = n then some x else ρ b
theorem Ren.add_same (ρ : Ren) (n : Nat) (x : Nat × Nat) : ρ.add n x n = some x := by simp [Ren.add]
theorem Ren.add_other {ρ : Ren} {n b : Nat} {x : Nat × Nat} (h : b ≠ n) : ρ.add n x b = ρ b := by simp [Ren.add, h]
theorem Ren.le_add {ρ : Ren} {n : Nat} {x : Nat × Nat} (h : ρ n = none) : ρ.le (ρ.add n x) := fun b y hb => by
  unfold Ren.add
  split
  · rename_i e; subst e; rw [h] at hb; cases hb
  · exact hb

section
variable {E : Env} {B : Nat} {ρ : Ren} {S : St} {w : World}
theorem HR.next_none (h : HR E B ρ S w) : ρ S.next = none := by
  cases hn : ρ S.next with
  | none => rfl
  | some x => exact absurd (h.next _ _ hn) (Nat.lt_irrefl _)
theorem HR.place (h : HR E B ρ S w) {b : Nat} {k : Blk} {g c : Nat} (hb : S.heap.get b = some k) (hr : ρ b = some (g, c)) : g < w.heap.size := by
  obtain ⟨_, o, ho, _⟩ := h.blk b k g c hb hr
  exact (Array.getElem?_eq_some_iff.1 ho).1
/-- a world with the same memory -/
theorem HR.same {w' : World} (h : HR E B ρ S w) (e : w'.heap = w.heap) : HR E B ρ S w' :=
  ⟨e ▸ h.base, fun b k g c hb hr => by rw [e]; exact h.blk b k g c hb hr, h.inj, h.next, h.fresh⟩
theorem HR.drew (h : HR E B ρ S w) : HR E B ρ S w.drew := h.same rfl
theorem Ext.drew (B : Nat) (ρ : Ren) (S : St) (w : World) : Ext B ρ S w ρ S w.drew := ⟨Ren.le.refl ρ, fun _ _ h => ⟨h, rfl⟩, Nat.le_refl _, (Below.refl B w).drew⟩
theorem get_new (S : St) (k : Blk) (b : Nat) : (S.new k).heap.get b = if b = S.next then some k else S.heap.get b := by simp [St.new]
theorem next_new (S : St) (k : Blk) : (S.new k).next = S.next + 1 := rfl
theorem get_set (S : St) (n : Nat) (k : Blk) (b : Nat) : (S.set n k).heap.get b = if b = n then some k else S.heap.get b := by simp [St.set]
theorem get_drop (S : St) (n : Nat) (b : Nat) : (S.drop n).heap.get b = if b = n then none else S.heap.get b := by simp [St.drop]
theorem heap_alloc_same (w : World) (o : Obj) : (w.alloc o).heap[w.heap.size]? = some o := by
  show (w.heap.push o)[w.heap.size]? = _
  simp
theorem heap_alloc_lt (w : World) (o : Obj) {k : Nat} (h : k < w.heap.size) : (w.alloc o).heap[k]? = w.heap[k]? := Below.heap_alloc w o k h

/-- a new block of the runner's, that has no place yet -/
theorem HR.newPend (h : HR E B ρ S w) (k : Blk) : HR E B ρ (S.new k) w := by
  refine ⟨h.base, fun b k' g c hb hr => ?_, fun b b' k1 k2 g c c' hb hb' hr hr' => ?_, fun b x hb => ?_, fun b k' hb => ?_⟩
  · rw [get_new] at hb
    have : b ≠ S.next := fun e => by have := h.next b _ hr; omega
    rw [if_neg this] at hb
    exact h.blk b k' g c hb hr
  · rw [get_new] at hb hb'
    have e1 : b ≠ S.next := fun e => by have := h.next b _ hr; omega
    have e2 : b' ≠ S.next := fun e => by have := h.next b' _ hr'; omega
    rw [if_neg e1] at hb
    rw [if_neg e2] at hb'
    exact h.inj b b' k1 k2 g c c' hb hb' hr hr'
  · rw [next_new]; have := h.next b x hb; omega
  · rw [next_new]
    rw [get_new] at hb
    split at hb
    · omega
    · have := h.fresh b k' hb; omega
theorem Ext.newPend (h : HR E B ρ S w) (k : Blk) : Ext B ρ S w ρ (S.new k) w :=
  ⟨Ren.le.refl ρ, fun b hb hn => ⟨hn, by rw [get_new, if_neg (by omega)]⟩, by rw [next_new]; omega, Below.refl B w⟩
/-- a block that has no place yet gets one -/
theorem HR.settle (h : HR E B ρ S w) {n : Nat} (hn : n < S.next) (hp : ρ n = none) {k : Blk} (hk : S.heap.get n = some k) (c : Nat) (o : Obj) (ho : OR E (ρ.add n (w.heap.size, c)) k c o) :
    HR E B (ρ.add n (w.heap.size, c)) S (w.alloc o) := by
  have hle := Ren.le_add (x := (w.heap.size, c)) hp
  refine ⟨by have := h.base; simp; omega, fun b k' g c' hb hr => ?_, fun b b' k1 k2 g c1 c2 hb hb' hr hr' => ?_, fun b x hb => ?_, h.fresh⟩
  · by_cases e : b = n
    · subst e
      rw [Ren.add_same] at hr
      cases hr
      rw [hk] at hb
      cases hb
      exact ⟨h.base, o, heap_alloc_same w o, ho⟩
    · rw [Ren.add_other e] at hr
      obtain ⟨h1, o', h2, h3⟩ := h.blk b k' g c' hb hr
      exact ⟨h1, o', by rw [heap_alloc_lt w o (h.place hb hr)]; exact h2, h3.mono hle⟩
  · by_cases e : b = n
    · by_cases e' : b' = n
      · rw [e, e']
      · subst e
        rw [Ren.add_same] at hr
        cases hr
        rw [Ren.add_other e'] at hr'
        exact absurd (h.place hb' hr') (Nat.lt_irrefl _)
    · by_cases e' : b' = n
      · subst e'
        rw [Ren.add_same] at hr'
        cases hr'
        rw [Ren.add_other e] at hr
        exact absurd (h.place hb hr) (Nat.lt_irrefl _)
      · rw [Ren.add_other e] at hr
        rw [Ren.add_other e'] at hr'
        exact h.inj b b' k1 k2 g c1 c2 hb hb' hr hr'
  · by_cases e : b = n
    · rw [e]; exact hn
    · rw [Ren.add_other e] at hb; exact h.next b x hb
/-- a new block -/
theorem HR.new (h : HR E B ρ S w) (k : Blk) (c : Nat) (o : Obj) (ho : OR E (ρ.add S.next (w.heap.size, c)) k c o) :
    HR E B (ρ.add S.next (w.heap.size, c)) (S.new k) (w.alloc o) :=
  (h.newPend k).settle (by rw [next_new]; omega) h.next_none (by rw [get_new, if_pos rfl]) c o ho
theorem Ext.new (h : HR E B ρ S w) (k : Blk) (c : Nat) (o : Obj) : Ext B ρ S w (ρ.add S.next (w.heap.size, c)) (S.new k) (w.alloc o) :=
  ⟨Ren.le_add h.next_none, fun b hb hn => ⟨by rw [Ren.add_other (by omega)]; exact hn, by rw [get_new, if_neg (by omega)]⟩, by rw [next_new]; omega, (Below.refl B w).alloc h.base o⟩
/-- a block that turns -/
theorem HR.set (h : HR E B ρ S w) {b : Nat} {k0 k : Blk} {g c : Nat} (hb : S.heap.get b = some k0) (hr : ρ b = some (g, c)) {w' : World} {o : Obj} (hs : w'.heap.size = w.heap.size)
    (ho : w'.heap[g]? = some o) (hoth : ∀ j, j ≠ g → w'.heap[j]? = w.heap[j]?) (hk : OR E ρ k c o) : HR E B ρ (S.set b k) w' := by
  refine ⟨by rw [hs]; exact h.base, fun b' k' g' c' hb' hr' => ?_, fun b1 b2 k1 k2 g' c1 c2 hb1 hb2 hr1 hr2 => ?_, h.next, fun b' k' hb' => ?_⟩
  · rw [get_set] at hb'
    split at hb'
    · rename_i e
      subst e
      cases hb'
      rw [hr] at hr'
      cases hr'
      exact ⟨(h.blk _ _ _ _ hb hr).1, o, ho, hk⟩
    · rename_i e
      obtain ⟨h1, o', h2, h3⟩ := h.blk b' k' g' c' hb' hr'
      refine ⟨h1, o', ?_, h3⟩
      rw [hoth g' (fun eg => e ?_)]
      · exact h2
      · subst eg; exact h.inj b' b k' k0 _ _ _ hb' hb hr' hr
  · have f : ∀ {x k'}, (S.set b k).heap.get x = some k' → ∃ k'', S.heap.get x = some k'' := fun {x k'} hx => by
      rw [get_set] at hx
      split at hx
      · rename_i e; subst e; exact ⟨k0, hb⟩
      · exact ⟨_, hx⟩
    obtain ⟨k1', h1⟩ := f hb1
    obtain ⟨k2', h2⟩ := f hb2
    exact h.inj b1 b2 k1' k2' g' c1 c2 h1 h2 hr1 hr2
  · rw [get_set] at hb'
    split at hb'
    · rename_i e; subst e; exact h.fresh _ _ hb
    · exact h.fresh b' k' hb'
theorem Ext.set (h : HR E B ρ S w) {b : Nat} {k0 k : Blk} {g c : Nat} (hb : S.heap.get b = some k0) (hr : ρ b = some (g, c)) {w' : World} (hs : w'.heap.size = w.heap.size)
    (hoth : ∀ j, j ≠ g → w'.heap[j]? = w.heap[j]?) (h1 : w'.os = w.os) (h2 : w'.tape = w.tape) (h3 : w'.output = w.output) : Ext B ρ S w ρ (S.set b k) w' :=
  ⟨Ren.le.refl ρ, fun b' hb' hn => ⟨hn, by rw [get_set, if_neg (fun e => by subst e; rw [hr] at hn; cases hn)]⟩, Nat.le_refl _,
    ⟨h1, h2, h3, by omega, fun j hj => hoth j (fun e => by have := (h.blk _ _ _ _ hb hr).1; omega)⟩⟩
/-- a block that is given up -/
theorem HR.drop (h : HR E B ρ S w) (b : Nat) : HR E B ρ (S.drop b) w := by
  have f : ∀ {x k'}, (S.drop b).heap.get x = some k' → S.heap.get x = some k' := fun {x k'} hx => by
    rw [get_drop] at hx
    split at hx
    · cases hx
    · exact hx
  exact ⟨h.base, fun b' k g c hb hr => h.blk b' k g c (f hb) hr, fun b1 b2 k1 k2 g c1 c2 hb1 hb2 hr1 hr2 => h.inj b1 b2 k1 k2 g c1 c2 (f hb1) (f hb2) hr1 hr2, h.next, fun b' k hb => h.fresh b' k (f hb)⟩
theorem Ext.drop (B : Nat) (ρ : Ren) (S : St) (w : World) {b : Nat} {x : Nat × Nat} (hr : ρ b = some x) : Ext B ρ S w ρ (S.drop b) w :=
  ⟨Ren.le.refl ρ, fun b' hb' hn => ⟨hn, by rw [get_drop, if_neg (fun e => by subst e; rw [hr] at hn; cases hn)]⟩, Nat.le_refl _, Below.refl B w⟩
/-- a block given up while its place gets another block's name -/
theorem HR.move (h : HR E B ρ S w) {b : Nat} {k0 k : Blk} {g c : Nat} (hb : S.heap.get b = some k0) (hr : ρ b = some (g, c)) {w' : World} {o : Obj} (hs : w'.heap.size = w.heap.size)
    (ho : w'.heap[g]? = some o) (hoth : ∀ j, j ≠ g → w'.heap[j]? = w.heap[j]?) (c' : Nat) (hk : OR E (ρ.add S.next (g, c')) k c' o) :
    HR E B (ρ.add S.next (g, c')) ((S.drop b).new k) w' := by
  have hle := Ren.le_add (x := (g, c')) h.next_none
  have nx : (S.drop b).next = S.next := rfl
  have old : ∀ {x k'}, ((S.drop b).new k).heap.get x = some k' → x ≠ S.next → x ≠ b ∧ S.heap.get x = some k' := fun {x k'} hx hn => by
    rw [get_new, nx, if_neg hn, get_drop] at hx
    split at hx
    · cases hx
    · rename_i e; exact ⟨e, hx⟩
  refine ⟨by rw [hs]; exact h.base, fun b' k' g' c'' hb' hr' => ?_, fun b1 b2 k1 k2 g' c1 c2 hb1 hb2 hr1 hr2 => ?_, fun b' x hb' => ?_, fun b' k' hb' => ?_⟩
  · by_cases e : b' = S.next
    · subst e
      rw [Ren.add_same] at hr'
      cases hr'
      rw [get_new, nx, if_pos rfl] at hb'
      cases hb'
      exact ⟨(h.blk _ _ _ _ hb hr).1, o, ho, hk⟩
    · rw [Ren.add_other e] at hr'
      obtain ⟨hne, hx⟩ := old hb' e
      obtain ⟨h1, o', h2, h3⟩ := h.blk b' k' g' c'' hx hr'
      refine ⟨h1, o', ?_, h3.mono hle⟩
      rw [hoth g' (fun eg => hne ?_)]
      · exact h2
      · subst eg; exact h.inj b' b k' k0 _ _ _ hx hb hr' hr
  · by_cases e1 : b1 = S.next
    · by_cases e2 : b2 = S.next
      · rw [e1, e2]
      · subst e1
        rw [Ren.add_same] at hr1
        cases hr1
        rw [Ren.add_other e2] at hr2
        obtain ⟨hne, hx⟩ := old hb2 e2
        exact absurd (h.inj b2 b k2 k0 _ _ _ hx hb hr2 hr) hne
    · by_cases e2 : b2 = S.next
      · subst e2
        rw [Ren.add_same] at hr2
        cases hr2
        rw [Ren.add_other e1] at hr1
        obtain ⟨hne, hx⟩ := old hb1 e1
        exact absurd (h.inj b1 b k1 k0 _ _ _ hx hb hr1 hr) hne
      · rw [Ren.add_other e1] at hr1
        rw [Ren.add_other e2] at hr2
        exact h.inj b1 b2 k1 k2 g' c1 c2 (old hb1 e1).2 (old hb2 e2).2 hr1 hr2
  · rw [next_new, nx]
    by_cases e : b' = S.next
    · omega
    · rw [Ren.add_other e] at hb'; have := h.next b' x hb'; omega
  · rw [next_new, nx]
    by_cases e : b' = S.next
    · omega
    · have := h.fresh b' k' (old hb' e).2; omega
theorem Ext.move (h : HR E B ρ S w) {b : Nat} {k0 k : Blk} {g c : Nat} (hb : S.heap.get b = some k0) (hr : ρ b = some (g, c)) {w' : World} (hs : w'.heap.size = w.heap.size)
    (hoth : ∀ j, j ≠ g → w'.heap[j]? = w.heap[j]?) (c' : Nat) (h1 : w'.os = w.os) (h2 : w'.tape = w.tape) (h3 : w'.output = w.output) : Ext B ρ S w (ρ.add S.next (g, c')) ((S.drop b).new k) w' :=
  ⟨Ren.le_add h.next_none, fun b' hb' hn => ⟨by rw [Ren.add_other (by omega)]; exact hn, by
      rw [get_new, show (S.drop b).next = S.next from rfl, if_neg (by omega), get_drop, if_neg (fun e => by subst e; rw [hr] at hn; cases hn)]⟩, by rw [next_new]; show S.next ≤ S.next + 1; omega,
    ⟨h1, h2, h3, by omega, fun j hj => hoth j (fun e => by have := (h.blk _ _ _ _ hb hr).1; omega)⟩⟩

/-- what lies in a row -/
theorem HR.row (h : HR E B ρ S w) {b : Nat} {cs : List AV} {e : Nat} {op : Option Nat} {g c : Nat} (hb : S.heap.get b = some (.row cs e op)) (hr : ρ b = some (g, c)) :
    ∃ vs t fz, w.heap[g]? = some (.cells vs t fz) ∧ (∀ j, j < vs.size → ¬(fz.1 ≤ j ∧ j < fz.2)) ∧ VRs E ρ cs (vs.toList.take cs.length) ∧ cs.length ≤ vs.size ∧
      rowSz op vs.size c cs.length := by
  obtain ⟨_, o, ho, vs, t, fz, rfl, h2, h3, h4, h5⟩ := h.blk b _ g c hb hr
  exact ⟨vs, t, fz, ho, h2, h3, h4, h5⟩
theorem HR.cell (h : HR E B ρ S w) {b : Nat} {cs : List AV} {e : Nat} {op : Option Nat} {g c : Nat} (hb : S.heap.get b = some (.row cs e op)) (hr : ρ b = some (g, c)) {i : Nat} {v : AV} (hi : cs[i]? = some v) :
    ∃ x, w.cell? ⟨g, i, none⟩ = some x ∧ VR E ρ v x := by
  obtain ⟨vs, t, fz, hg, _, hv, _, _⟩ := h.row hb hr
  obtain ⟨x, hx, hvx⟩ := hv.get hi
  rw [List.getElem?_take] at hx
  split at hx
  · refine ⟨x, ?_, hvx⟩
    simp only [World.cell?, hg, Option.isSome_none, Bool.false_eq_true, if_false]
    rw [← Array.getElem?_toList]; exact hx
  · cases hx
theorem rowOf_spec {b : Nat} {cs : List AV} (h : rowOf S b = some cs) : ∃ e op, S.heap.get b = some (.row cs e op) := by
  unfold rowOf at h
  cases hg : S.heap.get b with
  | none => rw [hg] at h; cases h
  | some k =>
    rw [hg] at h
    cases k with
    | row cs' e op => cases h; exact ⟨e, op, rfl⟩
    | map _ _ => cases h
    | mit _ _ => cases h
/-- a stretch of cells, read -/
theorem HR.stretch (h : HR E B ρ S w) {b : Nat} {cs : List AV} {e : Nat} {op : Option Nat} {g c : Nat} (hb : S.heap.get b = some (.row cs e op)) (hr : ρ b = some (g, c)) {off n : Nat} {l : List AV} (hl : sub? cs off n = some l) :
    ∃ xs, VRs E ρ l xs ∧ xs.length = n ∧ ∀ j x, xs[j]? = some x → w.cell? ⟨g, off + j, none⟩ = some x := by
  obtain ⟨h1, h2⟩ := sub?_spec hl
  have key : ∀ (l : List AV) (off : Nat), (∀ i, i < l.length → cs[off + i]? = l[i]?) → ∃ xs, VRs E ρ l xs ∧ xs.length = l.length ∧ ∀ j x, xs[j]? = some x → w.cell? ⟨g, off + j, none⟩ = some x := by
    intro l
    induction l with
    | nil => intro off _; exact ⟨[], trivial, rfl, fun j x hj => by simp at hj⟩
    | cons a l ih =>
      intro off hall
      obtain ⟨x, hx, hv⟩ := h.cell hb hr (i := off) (v := a) (by have := hall 0 (by simp); simpa using this)
      obtain ⟨xs, hxs, hlen, hcs⟩ := ih (off + 1) (fun i hi => by have := hall (i + 1) (by simpa using hi); rw [show off + 1 + i = off + (i + 1) by omega]; simpa using this)
      refine ⟨x :: xs, ⟨hv, hxs⟩, by simp [hlen], fun j y hj => ?_⟩
      cases j with
      | zero => simp at hj; subst hj; exact hx
      | succ j => have := hcs j y (by simpa using hj); rw [show off + (j + 1) = off + 1 + j by omega]; exact this
  obtain ⟨xs, a1, a2, a3⟩ := key l off (fun i hi => sub?_get hl (by omega))
  exact ⟨xs, a1, by omega, a3⟩
end

/-- cells laid over a row's -/
theorem run_storeCells_row {P : Program} (g o : Nat) (t : TypeId) (fz : Nat × Nat) : ∀ (vs : List Value) (i : Nat) (cur : Array Value) (w : World), w.heap[g]? = some (.cells cur t fz) → (∀ j, j < cur.size → ¬(fz.1 ≤ j ∧ j < fz.2)) →
    o + i + vs.length ≤ cur.size → (∀ v ∈ vs, v.oneCell' = true) →
    (storeCells ⟨g, o, none⟩ vs i).run P w = .ok () (w.setRow g (cur.toList.take (o + i) ++ vs ++ cur.toList.drop (o + i + vs.length)).toArray)
  | [], i, cur, w, hg, _, _, _ => by
    simp only [storeCells, List.append_nil, List.length_nil, Nat.add_zero, List.take_append_drop, Array.toArray_toList]
    rw [setRow_self w g cur t fz hg]
    rfl
  | v :: rest, i, cur, w, hg, hf, hl, h1 => by
    have hi : o + i < cur.size := by simp at hl; omega
    have hadd : (⟨g, o, none⟩ : Addr).add i = ⟨g, o + i, none⟩ := by unfold Addr.add; split <;> simp_all
    have hcell : w.cell? ⟨g, o + i, none⟩ = some cur[o + i] := by simp [World.cell?, hg, hi]
    have hfro : w.frozen? ⟨g, o + i, none⟩ = false := by
      have := hf _ hi
      obtain ⟨lo, hh⟩ := fz
      simp only [World.frozen?, hg]
      rw [Bool.eq_false_iff]
      intro hc
      simp only [Bool.and_eq_true, decide_eq_true_eq] at hc
      exact this hc
    have hst : (store ((⟨g, o, none⟩ : Addr).add i) v).run P w = .ok () (w.setRow g (cur.setIfInBounds (o + i) v)) := by
      rw [hadd, run_store P w _ v _ (h1 v (by simp)), hcell]
      simp [hfro, setCell_eq_setRow w g (o + i) cur t fz v hg]
    have ih := run_storeCells_row (P := P) g o t fz rest (i + 1) (cur.setIfInBounds (o + i) v) (w.setRow g (cur.setIfInBounds (o + i) v)) (setRow_heap w g cur _ t _ hg) (by simpa using hf) (by simp at hl ⊢; omega) (fun x hx => h1 x (by simp [hx]))
    simp only [storeCells, Sem.run_bind, hst, Result.andThen_ok, ih, setRow_setRow]
    congr 3
    have e := list_seg_step cur.toList (o + i) v rest (by simp at hl ⊢; omega)
    simpa [Array.toList_setIfInBounds, Nat.add_assoc] using e

section
variable {E : Env} {B : Nat} {ρ : Ren} {S : St} {w : World}
theorem VRs.take {l : List AV} {m : List Value} (h : VRs E ρ l m) (n : Nat) : VRs E ρ (l.take n) (m.take n) := by
  induction n generalizing l m with
  | zero => simp [VRs]
  | succ n ih =>
    cases l with
    | nil => rw [VRs.nil_iff.1 h]; simp [VRs]
    | cons a l => obtain ⟨x, m', rfl, h1, h2⟩ := VRs.cons_iff.1 h; exact ⟨h1, ih h2⟩
theorem VRs.drop {l : List AV} {m : List Value} (h : VRs E ρ l m) (n : Nat) : VRs E ρ (l.drop n) (m.drop n) := by
  induction n generalizing l m with
  | zero => simpa using h
  | succ n ih =>
    cases l with
    | nil => rw [VRs.nil_iff.1 h]; simp [VRs]
    | cons a l => obtain ⟨x, m', rfl, h1, h2⟩ := VRs.cons_iff.1 h; exact ih h2
theorem VRs.ones {l : List AV} {m : List Value} (h : VRs E ρ l m) (ho : ∀ v ∈ l, v.one = true) : ∀ x ∈ m, x.oneCell' = true := by
  induction l generalizing m with
  | nil => rw [VRs.nil_iff.1 h]; simp
  | cons a l ih =>
    obtain ⟨x, m', rfl, h1, h2⟩ := VRs.cons_iff.1 h
    intro y hy
    rcases List.mem_cons.1 hy with rfl | hy
    · exact h1.one (ho a (by simp))
    · exact ih h2 (fun v hv => ho v (by simp [hv])) y hy
/-- cells laid over a row's: the runner's row and the world's -/
theorem HR.lay (P : Program) (h : HR E B ρ S w) {b : Nat} {cs : List AV} {e : Nat} {op : Option Nat} {g c : Nat} (hb : S.heap.get b = some (.row cs e op)) (hr : ρ b = some (g, c))
    {off : Nat} {l cs' : List AV} (hl : over? l off cs = some cs') {xs : List Value} (hx : VRs E ρ l xs) (ho : ∀ v ∈ l, v.one = true) :
    ∃ w', (storeCells ⟨g, off, none⟩ xs 0).run P w = .ok () w' ∧ HR E B ρ (S.set b (.row cs' e op)) w' ∧ Ext B ρ S w ρ (S.set b (.row cs' e op)) w' := by
  obtain ⟨vs, t, fz, hg, hf, hv, hle, hsz⟩ := h.row hb hr
  obtain ⟨rfl, hlen⟩ := over?_spec _ _ _ _ hl
  have hxl := hx.length
  have hst := run_storeCells_row (P := P) g off t fz xs 0 vs w hg hf (by omega) (hx.ones ho)
  simp only [Nat.add_zero] at hst
  refine ⟨_, hst, h.set hb hr (by simp) (setRow_heap w g vs _ t fz hg) (fun j hj => setRow_other w g j _ hj) ?_, Ext.set h hb hr (by simp) (fun j hj => setRow_other w g j _ hj) rfl rfl rfl⟩
  have hclen : (cs.take off ++ l ++ cs.drop (off + l.length)).length = cs.length := by simp; omega
  have hvlen : (vs.toList.take off ++ xs ++ vs.toList.drop (off + xs.length)).toArray.size = vs.size := by simp; omega
  refine ⟨_, t, fz, rfl, by rw [hvlen]; exact hf, ?_, by rw [hclen, hvlen]; exact hle, by rw [hclen, hvlen]; exact hsz⟩
  rw [hclen]
  have e1 : (vs.toList.take off ++ xs ++ vs.toList.drop (off + xs.length)).toArray.toList.take cs.length = (vs.toList.take cs.length).take off ++ xs ++ (vs.toList.take cs.length).drop (off + xs.length) := by
    simp only [List.take_take, List.drop_take]
    rw [show min off cs.length = off by omega]
    rw [List.take_append, List.take_append]
    simp only [List.take_take, List.length_append, List.length_take, Array.length_toList]
    rw [show min cs.length off = off by omega, show min off vs.size = off by omega]
    rw [List.take_of_length_le (by omega : xs.length ≤ cs.length - off), show cs.length - (off + xs.length) = cs.length - (off + xs.length) from rfl]
  rw [e1]
  exact ((hv.take off).append hx).append (hxl ▸ hv.drop _)
end
end Go.Proofs.YtdimeaooekhkhaaGreat.AX
