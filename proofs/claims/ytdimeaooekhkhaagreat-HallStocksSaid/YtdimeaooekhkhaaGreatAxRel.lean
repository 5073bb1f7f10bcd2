/- Proved: what the runner's values and memory say of the model's. No function of the program is walked here. -/
import Derived.Test.YtdimeaooekhkhaaGreatAxComp
import Derived.Below
import Derived.WalkKit
set_option linter.unusedVariables false
set_option linter.unusedSimpArgs false
namespace Go.Proofs.YtdimeaooekhkhaaGreat.AX
open Go.RowKit

@[simp] theorem later_eq {α : Type} (x : α) : later x = x := rfl
@[simp] theorem seqT_eq {α β : Type} (t : Tr α) (f : Tr α → β) : seqT t f = f t := by cases t <;> rfl
@[simp] theorem seqN_eq {β : Type} (n : Nat) (f : Nat → β) : seqN n f = f n := by cases n <;> rfl
@[simp] theorem seqI_eq {β : Type} (n : Int) (f : Int → β) : seqI n f = f n := by
  cases n with
  | ofNat m => exact seqN_eq m fun m => f (.ofNat m)
  | negSucc m => exact seqN_eq m fun m => f (.negSucc m)
@[simp] theorem seqB_eq {β : Type} (n : Bool) (f : Bool → β) : seqB n f = f n := by cases n <;> rfl
@[simp] theorem seqL_eq {α β : Type} (l : List α) (f : List α → β) : seqL l f = f l := by
  induction l generalizing f with
  | nil => rfl
  | cons a l ih => exact (ih _)
@[simp] theorem seqV_eq {β : Type} (v : AV) (f : AV → β) : seqV v f = f v := by cases v <;> rfl
@[simp] theorem seqSt_eq {β : Type} (S : St) (f : St → β) : seqSt S f = f S := by cases S; simp [seqSt]
@[simp] theorem cnd_true {β : Type} (a b : β) : cnd true a b = a := rfl
@[simp] theorem cnd_false {β : Type} (a b : β) : cnd false a b = b := rfl
@[simp] theorem oif_none {α β : Type} (n : β) (f : α → β) : oif none n f = n := rfl
@[simp] theorem oif_some {α β : Type} (a : α) (n : β) (f : α → β) : oif (some a) n f = f a := rfl
@[simp] theorem bind_ok {α β : Type} (a : α) (f : α → R β) : R.bind (.ok a) f = f a := rfl
@[simp] theorem bind_err {α β : Type} (s : String) (f : α → R β) : R.bind (.err s) f = .err s := rfl
theorem bind_eq_ok {α β : Type} {x : R α} {f : α → R β} {b : β} (h : R.bind x f = .ok b) : ∃ a, x = .ok a ∧ f a = .ok b := by
  cases x with
  | ok a => exact ⟨a, rfl, h⟩
  | err s => cases h
theorem cnd_eq_ok {α : Type} {c : Bool} {x : R α} {s : String} {b : α} (h : cnd c x (.err s) = .ok b) : c = true ∧ x = .ok b := by
  cases c with
  | true => exact ⟨rfl, h⟩
  | false => cases h
theorem oif_eq_ok {α β : Type} {c : Option α} {s : String} {f : α → R β} {b : β} (h : oif c (.err s) f = .ok b) : ∃ a, c = some a ∧ f a = .ok b := by
  cases c with
  | some a => exact ⟨a, rfl, h⟩
  | none => cases h
@[simp] theorem lrec_nil {α β : Type} (e : β) (f : α → β → β) : lrec e f [] = e := rfl
@[simp] theorem lrec_cons {α β : Type} (e : β) (f : α → β → β) (a : α) (l : List α) : lrec e f (a :: l) = f a (lrec e f l) := rfl
@[simp] theorem nrec_zero {β : Type} (e : β) (f : β → β) : nrec e f 0 = e := rfl
@[simp] theorem nrec_succ {β : Type} (e : β) (f : β → β) (n : Nat) : nrec e f (n + 1) = f (nrec e f n) := rfl

theorem beq0_yes {m : Nat} (h : m % 2 = 0) : Nat.beq (m % 2) 0 = true := by rw [h]; rfl
theorem beq0_no {m : Nat} (h : ¬ m % 2 = 0) : Nat.beq (m % 2) 0 = false := by
  have h1 : m % 2 = 1 := by omega
  rw [h1]; rfl
theorem get_lf {α : Type} (n : Nat) : (Tr.lf : Tr α).get n = none := rfl
theorem get_zero {α : Type} (l r : Tr α) (v : Option α) : (Tr.nd l v r).get 0 = v := rfl
theorem get_succ {α : Type} (l r : Tr α) (v : Option α) (m : Nat) : (Tr.nd l v r).get (m + 1) = if m % 2 = 0 then l.get (m / 2) else r.get (m / 2) := by
  show Bool.rec (motive := fun _ => Option α) (r.get (m / 2)) (l.get (m / 2)) (Nat.beq (m % 2) 0) = _
  by_cases h : m % 2 = 0
  · rw [if_pos h, beq0_yes h]
  · rw [if_neg h, beq0_no h]
theorem setF_lf {α : Type} (v : Option α) (f n : Nat) : Tr.setF v (f + 1) n .lf = match n with
    | 0 => .nd .lf v .lf
    | m + 1 => if m % 2 = 0 then .nd (Tr.setF v f (m / 2) .lf) none .lf else .nd .lf none (Tr.setF v f (m / 2) .lf) := by
  cases n with
  | zero => rfl
  | succ m =>
    show seqN (m / 2) (fun d => Bool.rec (motive := fun _ => Tr α) (seqT (Tr.setF v f d .lf) fun c => .nd .lf none c) (seqT (Tr.setF v f d .lf) fun c => .nd c none .lf) (Nat.beq (m % 2) 0)) = _
    rw [seqN_eq]
    by_cases h : m % 2 = 0
    · rw [beq0_yes h]; simp only [if_pos h, seqT_eq]
    · rw [beq0_no h]; simp only [if_neg h, seqT_eq]
theorem setF_nd {α : Type} (v x : Option α) (f n : Nat) (l r : Tr α) : Tr.setF v (f + 1) n (.nd l x r) = match n with
    | 0 => .nd l v r
    | m + 1 => if m % 2 = 0 then .nd (Tr.setF v f (m / 2) l) x r else .nd l x (Tr.setF v f (m / 2) r) := by
  cases n with
  | zero => rfl
  | succ m =>
    show seqN (m / 2) (fun d => Bool.rec (motive := fun _ => Tr α) (seqT (Tr.setF v f d r) fun c => .nd l x c) (seqT (Tr.setF v f d l) fun c => .nd c x r) (Nat.beq (m % 2) 0)) = _
    rw [seqN_eq]
    by_cases h : m % 2 = 0
    · rw [beq0_yes h]; simp only [if_pos h, seqT_eq]
    · rw [beq0_no h]; simp only [if_neg h, seqT_eq]
theorem get_setF {α : Type} (v : Option α) : ∀ (f n : Nat) (t : Tr α) (k : Nat), n < f → (Tr.setF v f n t).get k = if k = n then v else t.get k := by
  intro f
  induction f with
  | zero => intro n t k h; omega
  | succ f ih =>
    intro n t k h
    cases t with
    | lf =>
      rw [setF_lf]
      cases n with
      | zero => cases k with
        | zero => simp [get_zero]
        | succ k => simp [get_succ, get_lf]
      | succ m =>
        by_cases hm : m % 2 = 0
        · simp only [hm, if_true]
          cases k with
          | zero => simp [get_zero, get_lf]
          | succ k =>
            rw [get_succ]
            by_cases hk : k % 2 = 0
            · rw [if_pos hk, ih _ _ _ (by omega)]
              by_cases e : k = m
              · subst e; simp
              · rw [if_neg (by omega), if_neg (by omega)]; simp [get_lf]
            · rw [if_neg hk, if_neg (by omega)]
              simp [get_lf]
        · simp only [hm, if_false]
          cases k with
          | zero => simp [get_zero, get_lf]
          | succ k =>
            rw [get_succ]
            by_cases hk : k % 2 = 0
            · rw [if_pos hk, if_neg (by omega)]
              simp [get_lf]
            · rw [if_neg hk, ih _ _ _ (by omega)]
              by_cases e : k = m
              · subst e; simp
              · rw [if_neg (by omega), if_neg (by omega)]; simp [get_lf]
    | nd l x r =>
      rw [setF_nd]
      cases n with
      | zero => cases k with
        | zero => simp [get_zero]
        | succ k => simp [get_succ]
      | succ m =>
        by_cases hm : m % 2 = 0
        · simp only [hm, if_true]
          cases k with
          | zero => simp [get_zero]
          | succ k =>
            rw [get_succ, get_succ]
            by_cases hk : k % 2 = 0
            · rw [if_pos hk, if_pos hk, ih _ _ _ (by omega)]
              by_cases e : k = m
              · subst e; simp
              · rw [if_neg (by omega), if_neg (by omega)]
            · rw [if_neg hk, if_neg hk, if_neg (by omega)]
        · simp only [hm, if_false]
          cases k with
          | zero => simp [get_zero]
          | succ k =>
            rw [get_succ, get_succ]
            by_cases hk : k % 2 = 0
            · rw [if_pos hk, if_pos hk, if_neg (by omega)]
            · rw [if_neg hk, if_neg hk, ih _ _ _ (by omega)]
              by_cases e : k = m
              · subst e; simp
              · rw [if_neg (by omega), if_neg (by omega)]
@[simp] theorem get_put {α : Type} (t : Tr α) (n : Nat) (v : Option α) (k : Nat) : (t.put n v).get k = if k = n then v else t.get k :=
  get_setF v (n + 1) n t k (Nat.lt_succ_self n)

/-! ## values -/
/-- what the numbers that are not known are, and the values that are not looked into -/
structure Env where
  iv : Nat → Int
  opq : Nat → Value
  one : ∀ i, (opq i).oneCell' = true
def IE.val (E : Env) : IE → Int
  | .var i => E.iv i
  | .lit n => n
  | .add a b => a.val E + b.val E
  | .sub a b => a.val E - b.val E
  | .mul a b => a.val E * b.val E
  | .quo a b => (a.val E).tdiv (b.val E)
  | .rem a b => (a.val E).tmod (b.val E)
/-- where the runner's blocks lie: the block, and how many elements there is room for -/
abbrev Ren := Nat → Option (Nat × Nat)
def mkS (l : List Nat) : ByteArray := ⟨(l.map UInt8.ofNat).toArray⟩
def Cp.val (c : Nat) : Cp → Nat
  | .ex n => n
  | .op k => c - k

mutual
/-- a runner's value tells a value -/
def VR (E : Env) (ρ : Ren) : AV → Value → Prop
  | .bool b, x => x = .bool b
  | .int k n, x => x = .int k n
  | .sym k e, x => x = .int k (e.val E)
  | .str l, x => x = .string (mkS l) ∧ ∀ n ∈ l, n < 256
  | .ptr b off, x => ∃ g c, ρ b = some (g, c) ∧ x = .pointer (some ⟨g, off, none⟩)
  | .nilp, x => x = .pointer none
  | .glob g, x => x = .pointer (some ⟨g, 0, none⟩)
  | .slice b off len cp, x => ∃ g c, ρ b = some (g, c) ∧ x = .slice (some ⟨g, off, none⟩) len (cp.val c)
  | .none0, x => ∃ a c, x = .slice a 0 c
  | .nils, x => x = .slice none 0 0
  | .mapv b, x => ∃ g c, ρ b = some (g, c) ∧ x = .map (some g)
  | .nilm, x => x = .map none
  | .fn f first cap, x => ∃ xs ys, x = .func f xs ys ∧ VRs E ρ first xs.toList ∧ VRs E ρ cap ys.toList
  | .niln, x => x = .nilFunc
  | .iface t v, x => ∃ y, x = .iface t y ∧ VR E ρ v y
  | .nili, x => x = .nilIface
  | .agg cs, x => ∃ xs, x = .agg xs ∧ VRs E ρ cs xs.toList
  | .tup cs, x => ∃ xs, x = .tuple xs ∧ VRs E ρ cs xs.toList
  | .opq i, x => x = E.opq i
  | .any, _ => True
def VRs (E : Env) (ρ : Ren) : List AV → List Value → Prop
  | [], [] => True
  | a :: l, x :: m => VR E ρ a x ∧ VRs E ρ l m
  | _, _ => False
end

theorem VRs.nil_iff {E : Env} {ρ : Ren} {m : List Value} : VRs E ρ [] m ↔ m = [] := by cases m <;> simp [VRs]
theorem VRs.cons_iff {E : Env} {ρ : Ren} {a : AV} {l : List AV} {m : List Value} : VRs E ρ (a :: l) m ↔ ∃ x m', m = x :: m' ∧ VR E ρ a x ∧ VRs E ρ l m' := by
  cases m with
  | nil => simp [VRs]
  | cons x m' => exact ⟨fun ⟨h1, h2⟩ => ⟨x, m', rfl, h1, h2⟩, fun ⟨y, n, e, h1, h2⟩ => by cases e; exact ⟨h1, h2⟩⟩
theorem VRs.length {E : Env} {ρ : Ren} : ∀ {l : List AV} {m : List Value}, VRs E ρ l m → l.length = m.length
  | [], m, h => by rw [VRs.nil_iff.1 h]; rfl
  | a :: l, m, h => by obtain ⟨x, m', rfl, _, h2⟩ := VRs.cons_iff.1 h; simp [VRs.length h2]
theorem VRs.get {E : Env} {ρ : Ren} : ∀ {l : List AV} {m : List Value}, VRs E ρ l m → ∀ {i : Nat} {a : AV}, l[i]? = some a → ∃ x, m[i]? = some x ∧ VR E ρ a x
  | [], m, h, i, a, hi => by simp at hi
  | b :: l, m, h, i, a, hi => by
    obtain ⟨x, m', rfl, h1, h2⟩ := VRs.cons_iff.1 h
    cases i with
    | zero => simp at hi; subst hi; exact ⟨x, by simp, h1⟩
    | succ i => simp at hi; obtain ⟨y, hy, hv⟩ := VRs.get h2 hi; exact ⟨y, by simpa using hy, hv⟩
theorem VRs.append {E : Env} {ρ : Ren} : ∀ {l : List AV} {m : List Value} {l' : List AV} {m' : List Value}, VRs E ρ l m → VRs E ρ l' m' → VRs E ρ (l ++ l') (m ++ m')
  | [], m, l', m', h, h' => by rw [VRs.nil_iff.1 h]; exact h'
  | a :: l, m, l', m', h, h' => by
    obtain ⟨x, m2, rfl, h1, h2⟩ := VRs.cons_iff.1 h
    exact ⟨h1, VRs.append h2 h'⟩

/-- more blocks are known -/
def Ren.le (ρ ρ' : Ren) : Prop := ∀ b x, ρ b = some x → ρ' b = some x
theorem Ren.le.refl (ρ : Ren) : ρ.le ρ := fun _ _ h => h
theorem Ren.le.trans {a b c : Ren} (h : a.le b) (h' : b.le c) : a.le c := fun n x hx => h' n x (h n x hx)

mutual
theorem VR.mono {E : Env} {ρ ρ' : Ren} (h : ρ.le ρ') : ∀ {v : AV} {x : Value}, VR E ρ v x → VR E ρ' v x
  | .bool _, _, hv => hv
  | .int _ _, _, hv => hv
  | .sym _ _, _, hv => hv
  | .str _, _, hv => hv
  | .ptr _ _, _, ⟨g, c, h1, h2⟩ => ⟨g, c, h _ _ h1, h2⟩
  | .nilp, _, hv => hv
  | .glob _, _, hv => hv
  | .slice _ _ _ _, _, ⟨g, c, h1, h2⟩ => ⟨g, c, h _ _ h1, h2⟩
  | .none0, _, hv => hv
  | .nils, _, hv => hv
  | .mapv _, _, ⟨g, c, h1, h2⟩ => ⟨g, c, h _ _ h1, h2⟩
  | .nilm, _, hv => hv
  | .fn _ _ _, _, ⟨xs, ys, h1, h2, h3⟩ => ⟨xs, ys, h1, VRs.mono h h2, VRs.mono h h3⟩
  | .niln, _, hv => hv
  | .iface _ _, _, ⟨y, h1, h2⟩ => ⟨y, h1, VR.mono h h2⟩
  | .nili, _, hv => hv
  | .agg _, _, ⟨xs, h1, h2⟩ => ⟨xs, h1, VRs.mono h h2⟩
  | .tup _, _, ⟨xs, h1, h2⟩ => ⟨xs, h1, VRs.mono h h2⟩
  | .opq _, _, hv => hv
  | .any, _, _ => trivial
theorem VRs.mono {E : Env} {ρ ρ' : Ren} (h : ρ.le ρ') : ∀ {l : List AV} {m : List Value}, VRs E ρ l m → VRs E ρ' l m
  | [], [], _ => trivial
  | _ :: _, _ :: _, ⟨h1, h2⟩ => ⟨VR.mono h h1, VRs.mono h h2⟩
end
theorem VR.one {E : Env} {ρ : Ren} {v : AV} {x : Value} (h : VR E ρ v x) (ho : v.one = true) : x.oneCell' = true := by
  cases v <;> simp only [VR] at h <;> (try (simp [AV.one] at ho; done)) <;> (try (subst h; rfl)) <;> (try (obtain ⟨_, _, _, rfl⟩ := h; rfl)) <;> (try (obtain ⟨_, _, rfl⟩ := h; rfl)) <;> (try (obtain ⟨_, rfl, _⟩ := h; rfl)) <;> (try (obtain ⟨rfl, _⟩ := h; rfl)) <;> (try (obtain ⟨_, _, rfl, _⟩ := h; rfl))
  · subst h; exact E.one _
theorem VR.undef (E : Env) (ρ : Ren) : VR E ρ undefA Go.undef := ⟨#[], rfl, trivial⟩
end Go.Proofs.YtdimeaooekhkhaaGreat.AX
