/- The runner's ground, for the kernel: tables by number, and means to reckon a thing to its end before going on. No function of the program is walked here. -/
import Derived.OrdersHeld
set_option linter.unusedVariables false
namespace Go.Proofs.YtdimeaooekhkhaaGreat.AX

/-- a table by number -/
inductive Tr (α : Type) where
  | lf
  | nd (l : Tr α) (v : Option α) (r : Tr α)
inductive R (α : Type) where
  | ok (a : α)
  | err (s : String)

noncomputable section
def later {α : Type} (x : α) : α := x
def seqT {α β : Type} (t : Tr α) (f : Tr α → β) : β := Tr.rec (motive := fun _ => β) (f .lf) (fun l v r _ _ => f (.nd l v r)) t
def seqN {β : Type} (n : Nat) (f : Nat → β) : β := Nat.rec (motive := fun _ => β) (f 0) (fun p _ => f (Nat.succ p)) n
def seqI {β : Type} (n : Int) (f : Int → β) : β := Int.rec (motive := fun _ => β) (fun m => seqN m fun m => f (.ofNat m)) (fun m => seqN m fun m => f (.negSucc m)) n
def seqB {β : Type} (n : Bool) (f : Bool → β) : β := Bool.rec (motive := fun _ => β) (f false) (f true) n
def seqL {α β : Type} (l : List α) : (List α → β) → β := List.rec (motive := fun _ => (List α → β) → β) (fun f => f []) (fun a _ ih f => ih fun l => f (a :: l)) l

def Tr.get {α : Type} (t : Tr α) : Nat → Option α :=
  Tr.rec (motive := fun _ => Nat → Option α) (fun _ => none)
    (fun l v r gl gr n => Nat.rec (motive := fun _ => Option α) v (fun m _ => Bool.rec (motive := fun _ => Option α) (gr (Nat.div m 2)) (gl (Nat.div m 2)) (Nat.beq (Nat.mod m 2) 0)) n) t
def Tr.setF {α : Type} (v : Option α) : Nat → Nat → Tr α → Tr α :=
  Nat.rec (motive := fun _ => Nat → Tr α → Tr α) (fun _ t => t)
    (fun f ih n t => Tr.rec (motive := fun _ => Tr α)
      (Nat.rec (motive := fun _ => Tr α) (.nd .lf v .lf) (fun m _ => seqN (Nat.div m 2) fun d => Bool.rec (motive := fun _ => Tr α) (seqT (ih d .lf) fun c => .nd .lf none c) (seqT (ih d .lf) fun c => .nd c none .lf) (Nat.beq (Nat.mod m 2) 0)) n)
      (fun l x r _ _ => Nat.rec (motive := fun _ => Tr α) (.nd l v r) (fun m _ => seqN (Nat.div m 2) fun d => Bool.rec (motive := fun _ => Tr α) (seqT (ih d r) fun c => .nd l x c) (seqT (ih d l) fun c => .nd c x r) (Nat.beq (Nat.mod m 2) 0)) n) t)
def Tr.put {α : Type} (t : Tr α) (n : Nat) (v : Option α) : Tr α := Tr.setF v (Nat.succ n) n t
def R.bind {α β : Type} (x : R α) (f : α → R β) : R β := R.rec (motive := fun _ => R β) f .err x
/-- one after another -/
def lrec {α β : Type} (e : β) (f : α → β → β) (l : List α) : β := List.rec (motive := fun _ => β) e (fun a _ ih => f a ih) l
/-- so many times -/
def nrec {β : Type} (e : β) (f : β → β) (n : Nat) : β := Nat.rec (motive := fun _ => β) e (fun _ ih => f ih) n
/-- rounds, till one says that it is over -/
def iter {σ τ : Type} (body : σ → R (Sum τ σ)) (n : Nat) : σ → R τ :=
  Nat.rec (motive := fun _ => σ → R τ) (fun _ => .err "rounds") (fun _ ih s => R.rec (motive := fun _ => R τ) (fun x => Sum.rec (motive := fun _ => R τ) .ok (fun s => later (ih s)) x) .err (body s)) n
def cnd {β : Type} (c : Bool) (a b : β) : β := Bool.rec (motive := fun _ => β) b a c
def oif {α β : Type} (c : Option α) (n : β) (f : α → β) : β := Option.rec (motive := fun _ => β) n f c
end
end Go.Proofs.YtdimeaooekhkhaaGreat.AX
