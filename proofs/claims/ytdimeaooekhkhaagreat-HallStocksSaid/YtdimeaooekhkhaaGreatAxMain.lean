/- The runner: values with block numbers of its own, what is in memory, and one operation after another. No function of the program is walked here. -/
import Derived.Test.YtdimeaooekhkhaaGreatAxBase
set_option linter.unusedVariables false
namespace Go.Proofs.YtdimeaooekhkhaaGreat.AX
noncomputable section

/-- an expression over whole numbers that are not known -/
inductive IE where
  | var (i : Nat)
  | lit (n : Int)
  | add (a b : IE)
  | sub (a b : IE)
  | mul (a b : IE)
  | quo (a b : IE)
  | rem (a b : IE)
/-- a slice's capacity: known, or up to the end of its block, so many elements left out -/
inductive Cp where
  | ex (n : Nat)
  | op (k : Nat)
/-- a value whose block numbers are the runner's own -/
inductive AV where
  | bool (b : Bool)
  | int (k : IntKind) (n : Int)
  | sym (k : IntKind) (e : IE)
  | str (l : List Nat)
  | ptr (b off : Nat)
  | nilp
  | glob (g : Nat)
  | slice (b off len : Nat) (cap : Cp)
  | none0
  | nils
  | mapv (b : Nat)
  | nilm
  | fn (f : Fn) (first cap : List AV)
  | niln
  | iface (t : Nat) (v : AV)
  | nili
  | agg (cs : List AV)
  | tup (cs : List AV)
  | opq (i : Nat)
  | any
structure Ent where
  key : AV
  val : AV
  born : Nat
inductive Blk where
  /-- cells of an element type; open: more may lie behind them, in elements of so many cells -/
  | row (cs : List AV) (e : Nat) (o : Option Nat)
  | map (es : List Ent) (clock : Nat)
  /-- an iterator over a map, or a nil one, that has given nothing yet -/
  | mit (r : Option Nat) (clock : Nat)
structure St where
  heap : Tr Blk
  next : Nat

/-! the code as it is run -/
inductive XA where
  | t (n : Nat)
  | c (v : AV)
/-- of what kind a cell is that is compared -/
inductive SK where
  | nt | st | bl
/-- of what kind the values are that are compared; ag: a struct or an array of such cells -/
inductive EK where
  | no | bl | ptr | slc | mp | fn
  | ag (l : List (Nat × SK))
/-- of what kind a map's keys are -/
inductive KK where
  | nt | st | bl
  | ag (l : List (Nat × SK))
inductive XOp where
  | mv (x : XA)
  | pick (c a b : XA)
  | row (e : Nat) (zero : List AV)
  | box (e : Nat) (x : XA)
  | build (zero : List AV) (ps : List (Nat × Nat × XA))
  | bsl (e : Nat) (zero : List AV) (n : Nat) (ps : List (Nat × Nat × XA))
  | ld1 (a : XA)
  | ldn (n : Nat) (a : XA)
  | st (n : Nat) (a x : XA)
  | nck (x : XA)
  | bin (op : BinOp) (ek : EK) (x y : XA)
  | un (op : UnOp) (x : XA)
  | cvi (k : IntKind) (x : XA)
  | css (x : XA)
  | bad
  | s2b (e : Nat) (x : XA)
  | b2s (x : XA)
  | mkf (f : Fn) (fs cs : List XA)
  | mkm
  | mks (e size : Nat) (zero : List AV) (l c : XA)
  | sls (x : XA) (lo hi : Option XA)
  | slc (size : Nat) (x : XA) (lo hi mx : Option XA)
  | sla (n size : Nat) (x : XA) (lo hi : Option XA)
  | fad (off : Nat) (x : XA)
  | fld (agg : Bool) (off n : Nat) (x : XA)
  | iad (size : Nat) (x i : XA)
  | iaa (n size : Nat) (x i : XA)
  | ixs (x i : XA)
  | ixa (n size : Nat) (agg : Bool) (x i : XA)
  | lkp (kk : KK) (zero : AV) (ok : Bool) (m k : XA)
  | mup (kk : KK) (m k v : XA)
  | men (kk : KK) (zero : AV) (m k : XA)
  | mst (m s v : XA)
  | rgm (x : XA)
  | nxt (x : XA)
  | ext (x : XA) (i : Nat)
  | app (e size : Nat) (s x : XA)
  /-- an append of so many zero values -/
  | apz (e size : Nat) (zero : List AV) (s x : XA)
  | cpy (size : Nat) (d x : XA)
  | len (x : XA)
  | lns (x : XA)
  | lnm (x : XA)
  | cap (x : XA)
  | mxm (mx : Bool) (x : XA) (xs : List XA)
  | del (kk : KK) (m k : XA)
  | clr (size : Nat) (zero : List AV) (x : XA)
  | cal (f : XA) (args : List XA)
  | mki (t : Nat) (x : XA)
  | tas (t : Nat) (x : XA)
structure XG where
  slot : Nat
  want : Bool
structure XK where
  g : Option XG
  d : Nat
  op : XOp
structure XS where
  d : Option Nat
  g : Option XG
  op : XOp
  chk : List XK
inductive XC where
  | skip
  | bad
  | reg (l : List XS)
  | seq (a b : XC)
  | cond (c : XA) (a b : XC)
  | blk (id : Nat) (a : XC)
  | loop (a : XC)
  | exit (id : Nat)
  | ret
inductive XR where
  | t (n : Nat)
  | c1 (n : Nat)
  | cn (size n : Nat)
structure XF where
  nt : Nat
  body : XC
  res : List XR

abbrev Tm := Tr AV
abbrev CallT := Nat → List AV → St → R (AV × St)
/-- what is known of the numbers that are not known -/
inductive Fact where
  | fit (k : IntKind) (e : IE)
  | lt (a b : IE) (r : Bool)
  | eq (a b : IE) (r : Bool)

/-! to the end of what is to be reckoned -/
def seqV {β : Type} (v : AV) : (AV → β) → β := match v with
  | .bool b => fun f => f (.bool b)
  | .int k n => fun f => f (.int k n)
  | .sym k n => fun f => f (.sym k n)
  | .str l => fun f => f (.str l)
  | .ptr b o => fun f => f (.ptr b o)
  | .nilp => fun f => f .nilp
  | .glob g => fun f => f (.glob g)
  | .slice b o l c => fun f => f (.slice b o l c)
  | .none0 => fun f => f .none0
  | .nils => fun f => f .nils
  | .mapv b => fun f => f (.mapv b)
  | .nilm => fun f => f .nilm
  | .fn a b c => fun f => f (.fn a b c)
  | .niln => fun f => f .niln
  | .iface t v => fun f => f (.iface t v)
  | .nili => fun f => f .nili
  | .agg l => fun f => f (.agg l)
  | .tup l => fun f => f (.tup l)
  | .opq i => fun f => f (.opq i)
  | .any => fun f => f .any
def seqSt {β : Type} (S : St) (f : St → β) : β := match S with | ⟨h, n⟩ => seqT h fun h => seqN n fun n => f ⟨h, n⟩

def undefA : AV := .tup []
def orU (x : Option AV) : AV := oif x undefA fun v => v
def eTmp (t : Nat) (tm : Tm) : AV := orU (tm.get t)
def eCon (v : AV) (_ : Tm) : AV := v
def ev (o : XA) : Tm → AV := match o with | .t n => eTmp n | .c v => eCon v
/-- the operands' values, each reckoned -/
def evs {β : Type} (tm : Tm) (l : List XA) : (List AV → β) → β := lrec (fun f => f []) (fun x ih f => seqV (ev x tm) fun v => ih fun r => f (v :: r)) l
def putO (d : Option Nat) (v : AV) (tm : Tm) : Tm := oif d tm fun d => tm.put d (some v)

def AV.cells (v : AV) : List AV := match v with | .agg cs => cs | v => [v]
/-- one cell, known -/
def AV.one (v : AV) : Bool := match v with | .agg _ => false | .tup _ => false | .any => false | _ => true

/-! lists -/
def leq : List Nat → List Nat → Bool := lrec (fun b => match b with | [] => true | _ :: _ => false) (fun a ih b => match b with | [] => false | y :: b => cnd (Nat.beq a y) (ih b) false)
def llt : List Nat → List Nat → Bool := lrec (fun b => match b with | [] => false | _ :: _ => true) (fun a ih b => match b with | [] => false | y :: b => cnd (Nat.blt a y) true (cnd (Nat.beq a y) (ih b) false))
def take? {α : Type} : Nat → List α → Option (List α) := nrec (fun _ => some []) (fun ih l => match l with | [] => none | a :: l => oif (ih l) none fun r => some (a :: r))
def drop' {α : Type} : Nat → List α → List α := nrec (fun l => l) (fun ih l => match l with | [] => [] | _ :: l => ih l)
def nth? {α : Type} : Nat → List α → Option α := nrec (fun l => match l with | [] => none | a :: _ => some a) (fun ih l => match l with | [] => none | _ :: l => ih l)
def sub? {α : Type} (cs : List α) (off n : Nat) : Option (List α) := take? n (drop' off cs)
/-- new cells over the first ones: within what is there -/
def over0 {α : Type} (vs : List α) : List α → Option (List α) := lrec (fun cs => some cs) (fun v ih cs => match cs with | [] => none | _ :: cs => oif (ih cs) none fun r => some (v :: r)) vs
/-- from a place on -/
def over? {α : Type} (vs : List α) : Nat → List α → Option (List α) := nrec (over0 vs) (fun ih cs => match cs with | [] => none | c :: cs => oif (ih cs) none fun r => some (c :: r))
def reps {α : Type} (z : List α) : Nat → List α := nrec [] (fun ih => z ++ ih)
def llen {α : Type} (l : List α) : Nat := lrec 0 (fun _ ih => Nat.succ ih) l
def allOne (l : List AV) : Bool := lrec true (fun v ih => cnd v.one ih false) l
def allByte (l : List Nat) : Bool := lrec true (fun v ih => cnd (Nat.blt v 256) ih false) l

/-! memory -/
def St.new (S : St) (b : Blk) : St := ⟨S.heap.put S.next (some b), Nat.succ S.next⟩
def St.set (S : St) (n : Nat) (b : Blk) : St := ⟨S.heap.put n (some b), S.next⟩
def St.drop (S : St) (n : Nat) : St := ⟨S.heap.put n none, S.next⟩

abbrev Out := R (AV × St)
def err (s : String) : Out := .err s
def rok (v : AV) (S : St) : Out := .ok (v, S)
def okB (S : St) (b : Bool) : Out := seqB b fun b => .ok (.bool b, S)
def okI (S : St) (k : IntKind) (n : Int) : Out := seqI n fun n => .ok (.int k n, S)
def okN (S : St) (n : Nat) : Out := seqN n fun n => .ok (.int .i64 (.ofNat n), S)
def okCells (S : St) (x : Option (List AV)) : Out := oif x (err "cells") fun l => seqL l fun l => .ok (.agg l, S)
def okCell (S : St) (x : Option AV) : Out := oif x (err "cell") fun v => .ok (v, S)

/-! numbers -/
def ibeq (a b : Int) : Bool := match a, b with
  | .ofNat a, .ofNat b => Nat.beq a b
  | .negSucc a, .negSucc b => Nat.beq a b
  | .ofNat _, .negSucc _ => false
  | .negSucc _, .ofNat _ => false
def ilt (a b : Int) : Bool := match a, b with
  | .ofNat a, .ofNat b => Nat.blt a b
  | .negSucc a, .negSucc b => Nat.blt b a
  | .negSucc _, .ofNat _ => true
  | .ofNat _, .negSucc _ => false
def wrapA (k : IntKind) (n : Int) : Int := match k, n with
  | .i64, .ofNat m => cnd (Nat.blt m 9223372036854775808) (.ofNat m) (IntKind.wrap .i64 (.ofNat m))
  | .i64, .negSucc m => cnd (Nat.blt m 9223372036854775808) (.negSucc m) (IntKind.wrap .i64 (.negSucc m))
  | .u64, .ofNat m => cnd (Nat.blt m 18446744073709551616) (.ofNat m) (IntKind.wrap .u64 (.ofNat m))
  | .u8, .ofNat m => cnd (Nat.blt m 256) (.ofNat m) (IntKind.wrap .u8 (.ofNat m))
  | k, n => k.wrap n
abbrev ArT := St → IntKind → Int → Int → Out
def arAdd : ArT := fun S k a b => okI S k (wrapA k (Int.add a b))
def arSub : ArT := fun S k a b => okI S k (wrapA k (Int.sub a b))
def arMul : ArT := fun S k a b => okI S k (wrapA k (Int.mul a b))
def arQuo : ArT := fun S k a b => cnd (ibeq b 0) (err "quo") (okI S k (wrapA k (Int.tdiv a b)))
def arRem : ArT := fun S k a b => cnd (ibeq b 0) (err "rem") (okI S k (Int.tmod a b))
def arAnd : ArT := fun S k a b => okI S k (k.wrap (BitVec.ofInt k.bits a &&& BitVec.ofInt k.bits b).toNat)
def arOr : ArT := fun S k a b => okI S k (k.wrap (BitVec.ofInt k.bits a ||| BitVec.ofInt k.bits b).toNat)
def arXor : ArT := fun S k a b => okI S k (k.wrap (BitVec.ofInt k.bits a ^^^ BitVec.ofInt k.bits b).toNat)
def arAndNot : ArT := fun S k a b => okI S k (k.wrap (BitVec.ofInt k.bits a &&& ~~~ BitVec.ofInt k.bits b).toNat)
def arEql : ArT := fun S _ a b => okB S (ibeq a b)
def arNeq : ArT := fun S _ a b => okB S (not (ibeq a b))
def arLss : ArT := fun S _ a b => okB S (ilt a b)
def arLeq : ArT := fun S _ a b => okB S (not (ilt b a))
def arGtr : ArT := fun S _ a b => okB S (ilt b a)
def arGeq : ArT := fun S _ a b => okB S (not (ilt a b))
def arErr : ArT := fun _ _ _ _ => err "no such operator"
def arOp (op : BinOp) : ArT := match op with
  | .add => arAdd | .sub => arSub | .mul => arMul | .quo => arQuo | .rem => arRem | .and => arAnd | .or => arOr | .xor => arXor | .andNot => arAndNot
  | .eql => arEql | .neq => arNeq | .lss => arLss | .leq => arLeq | .gtr => arGtr | .geq => arGeq | .shl => arErr | .shr => arErr
def shA (op : BinOp) (S : St) (k : IntKind) (a b : Int) : Out := cnd (ilt b 0) (err "shift") (match op with
  | .shl => okI S k (wrapA k (a * 2 ^ (min b.toNat k.bits)))
  | .shr => okI S k (a.fdiv (2 ^ (min b.toNat k.bits)))
  | _ => err "shift")
def kindEq (a b : IntKind) : Bool := match a, b with
  | .i64, .i64 => true | .u64, .u64 => true | .u8, .u8 => true | .i32, .i32 => true | .u32, .u32 => true | .i8, .i8 => true | .i16, .i16 => true | .u16, .u16 => true
  | _, _ => false
def binII (op : BinOp) (S : St) (k : IntKind) (a : Int) (j : IntKind) (b : Int) : Out := match op with
  | .shl => shA .shl S k a b
  | .shr => shA .shr S k a b
  | op => cnd (kindEq k j) (arOp op S k a b) (err "kinds")
def binSS (op : BinOp) (S : St) (a b : List Nat) : Out := match op with
  | .add => cnd (Nat.blt (llen a + llen b) 9223372036854775808) (seqL (a ++ b) fun l => rok (.str l) S) (err "long")
  | .eql => okB S (leq a b)
  | .neq => okB S (not (leq a b))
  | .lss => okB S (llt a b)
  | .leq => okB S (not (llt b a))
  | .gtr => okB S (llt b a)
  | .geq => okB S (not (llt a b))
  | _ => err "strings"
def IE.of (v : AV) : Option IE := match v with | .int _ n => some (.lit n) | .sym _ e => some e | _ => none
def AV.kind (v : AV) : Option IntKind := match v with | .int k _ => some k | .sym k _ => some k | _ => none
def findF (fs : List Fact) (f : Fact → Option Bool) : Option Bool := lrec none (fun x ih => oif (f x) ih fun b => some b) fs
def ieq : IE → IE → Bool := IE.rec (motive := fun _ => IE → Bool) (fun i b => match b with | .var j => Nat.beq i j | _ => false) (fun n b => match b with | .lit m => ibeq n m | _ => false)
  (fun _ _ ia ib b => match b with | .add c d => cnd (ia c) (ib d) false | _ => false) (fun _ _ ia ib b => match b with | .sub c d => cnd (ia c) (ib d) false | _ => false) (fun _ _ ia ib b => match b with | .mul c d => cnd (ia c) (ib d) false | _ => false)
  (fun _ _ ia ib b => match b with | .quo c d => cnd (ia c) (ib d) false | _ => false) (fun _ _ ia ib b => match b with | .rem c d => cnd (ia c) (ib d) false | _ => false)
def askFit (fs : List Fact) (k : IntKind) (e : IE) : Bool := oif (findF fs fun f => match f with | .fit j x => cnd (kindEq j k) (cnd (ieq x e) (some true) none) none | _ => none) false fun b => b
def askLt (fs : List Fact) (a b : IE) : Option Bool := findF fs fun f => match f with | .lt x y r => cnd (ieq x a) (cnd (ieq y b) (some r) none) none | _ => none
def askEq (fs : List Fact) (a b : IE) : Option Bool := findF fs fun f => match f with | .eq x y r => cnd (ieq x a) (cnd (ieq y b) (some r) none) none | _ => none
def askFitS (_ : IntKind) (_ : IE) : String := "fit"
def askLtS (_ _ : IE) : String := "less"
def askEqS (_ _ : IE) : String := "alike"
def symI (fs : List Fact) (S : St) (k : IntKind) (e : IE) : Out := cnd (askFit fs k e) (rok (.sym k e) S) (err (askFitS k e))
def symB (S : St) (neg : Bool) (w : String) (r : Option Bool) : Out := oif r (err w) fun b => okB S (cnd neg (not b) b)
def iadd (a b : IE) : IE := match a, b with | .lit 0, b => b | a, .lit 0 => a | a, b => .add a b
def isub (a b : IE) : IE := match b with | .lit 0 => a | b => .sub a b
/-- is it known not to be nought? -/
def isNz (fs : List Fact) (b : IE) : Bool := match b with | .lit n => not (ibeq n 0) | b => oif (askEq fs b (.lit 0)) false not
def symQ (fs : List Fact) (S : St) (k : IntKind) (a b : IE) : Out := cnd (isNz fs b) (symI fs S k (.quo a b)) (err (askEqS b (.lit 0)))
def symR (fs : List Fact) (S : St) (k : IntKind) (a b : IE) : Out := match b with
  | .lit 1 => okI S k 0
  | b => cnd (isNz fs b) (symI fs S k (.rem a b)) (err (askEqS b (.lit 0)))
def binYY (fs : List Fact) (op : BinOp) (S : St) (k : IntKind) (a b : IE) : Out := match op with
  | .add => symI fs S k (iadd a b)
  | .sub => symI fs S k (isub a b)
  | .mul => symI fs S k (.mul a b)
  | .quo => symQ fs S k a b
  | .rem => symR fs S k a b
  | .lss => symB S false (askLtS a b) (askLt fs a b)
  | .leq => symB S true (askLtS b a) (askLt fs b a)
  | .gtr => symB S false (askLtS b a) (askLt fs b a)
  | .geq => symB S true (askLtS a b) (askLt fs a b)
  | .eql => symB S false (askEqS a b) (askEq fs a b)
  | .neq => symB S true (askEqS a b) (askEq fs a b)
  | _ => err "sym"
def binYS (fs : List Fact) (op : BinOp) (S : St) (x y : AV) : Out :=
  oif (AV.kind x) (err "binop") fun k => oif (AV.kind y) (err "binop") fun j => oif (IE.of x) (err "binop") fun a => oif (IE.of y) (err "binop") fun b => cnd (kindEq k j) (binYY fs op S k a b) (err "kinds")

/-! are two values alike? -/
def bEq (a b : Bool) : Bool := match a, b with | true, true => true | false, false => true | _, _ => false
def scEq (x y : AV) : Option Bool := match x, y with
  | .bool a, .bool b => some (bEq a b)
  | .int j a, .int k b => cnd (kindEq j k) (some (ibeq a b)) none
  | .str a, .str b => some (leq a b)
  | _, _ => none
/-- two cells of a kind -/
def eqCell (s : SK) (x y : AV) : Option Bool := match s, x, y with
  | .bl, .bool a, .bool b => some (bEq a b)
  | .st, .str a, .str b => some (leq a b)
  | .nt, .int j a, .int k b => cnd (kindEq j k) (some (ibeq a b)) none
  | _, _, _ => none
def eqCells (l : List (Nat × SK)) (xs ys : List AV) : Option Bool :=
  lrec (some true) (fun p ih => oif (nth? p.1 xs) none fun x => oif (nth? p.1 ys) none fun y => oif (eqCell p.2 x y) none fun b => cnd b ih (some false)) l
def cellOk (s : SK) (x : AV) : Bool := match s, x with
  | .bl, .bool _ => true
  | .st, .str _ => true
  | .nt, .int _ _ => true
  | _, _ => false
def cellsOk (l : List (Nat × SK)) (xs : List AV) : Bool := lrec true (fun p ih => oif (nth? p.1 xs) false fun x => cnd (cellOk p.2 x) ih false) l
/-- the places are those from a number on, one after another -/
def offsOk : List (Nat × SK) → Nat → Bool := lrec (fun _ => true) (fun p ih i => cnd (Nat.beq p.1 i) (ih (Nat.succ i)) false)
/-- two keys -/
def keyEq (kk : KK) (x y : AV) : Option Bool := match kk, x, y with
  | .ag l, .agg xs, .agg ys => cnd (Nat.beq (llen xs) (llen ys)) (eqCells l xs ys) none
  | .ag _, _, _ => none
  | _, x, y => scEq x y
/-- two cells of a kind, numbers perhaps not known -/
def eqInt (fs : List Fact) (x y : AV) : R Bool := oif (AV.kind x) (.err "eql") fun k => oif (AV.kind y) (.err "eql") fun j => oif (IE.of x) (.err "eql") fun a => oif (IE.of y) (.err "eql") fun b =>
  cnd (kindEq k j) (oif (askEq fs a b) (.err (askEqS a b)) .ok) (.err "kinds")
def eqCellF (fs : List Fact) (s : SK) (x y : AV) : R Bool := match s with
  | .nt => oif (eqCell .nt x y) (eqInt fs x y) .ok
  | s => oif (eqCell s x y) (.err "eql cell") .ok
def eqAg (fs : List Fact) (l : List (Nat × SK)) (xs ys : List AV) : R Bool :=
  lrec (.ok true) (fun p ih => oif (nth? p.1 xs) (.err "eql cell") fun x => oif (nth? p.1 ys) (.err "eql cell") fun y => R.bind (eqCellF fs p.2 x y) fun b => cnd b ih (.ok false)) l
def eqBl (x y : AV) : Option Bool := match x, y with
  | .bool a, .bool b => some (bEq a b)
  | _, _ => none
def eqPtr (x y : AV) : Option Bool := match x, y with
  | .nilp, .nilp => some true
  | .nilp, .ptr _ _ => some false
  | .ptr _ _, .nilp => some false
  | .ptr a i, .ptr b j => cnd (Nat.beq a b) (some (Nat.beq i j)) none
  | _, _ => none
def eqSlc (x y : AV) : Option Bool := match x, y with
  | .nils, .nils => some true
  | .nils, .slice _ _ _ _ => some false
  | .slice _ _ _ _, .nils => some false
  | _, _ => none
def eqMp (x y : AV) : Option Bool := match x, y with
  | .nilm, .nilm => some true
  | .nilm, .mapv _ => some false
  | .mapv _, .nilm => some false
  | _, _ => none
def eqFn (x y : AV) : Option Bool := match x, y with
  | .niln, .niln => some true
  | .niln, .fn _ _ _ => some false
  | .fn _ _ _, .niln => some false
  | _, _ => none
def eqNo (_ _ : AV) : Option Bool := none
def eqO (x : Option Bool) : R Bool := oif x (.err "eql") .ok
def eqA (fs : List Fact) (k : EK) (x y : AV) : R Bool := match k with
  | .no => eqO (eqNo x y)
  | .bl => eqO (eqBl x y)
  | .ptr => eqO (eqPtr x y)
  | .slc => eqO (eqSlc x y)
  | .mp => eqO (eqMp x y)
  | .fn => eqO (eqFn x y)
  | .ag l => (match x, y with | .agg xs, .agg ys => eqAg fs l xs ys | _, _ => .err "eql")
def binEq (fs : List Fact) (op : BinOp) (ek : EK) (S : St) (x y : AV) : Out := match op with
  | .eql => R.bind (eqA fs ek x y) fun b => okB S b
  | .neq => R.bind (eqA fs ek x y) fun b => okB S (not b)
  | _ => err "binop"
abbrev BinT := List Fact → BinOp → EK → St → AV → Out
def binI (k : IntKind) (a : Int) : BinT := fun fs op _ S y => match y with
  | .int j b => binII op S k a j b
  | y => binYS fs op S (.int k a) y
def binY (k : IntKind) (a : IE) : BinT := fun fs op _ S y => binYS fs op S (.sym k a) y
def binT (a : List Nat) : BinT := fun _ op _ S y => match y with
  | .str b => binSS op S a b
  | _ => err "binop"
def binO (x : AV) : BinT := fun fs op flat S y => binEq fs op flat S x y
def binA (x : AV) : BinT := match x with
  | .int k a => binI k a
  | .sym k a => binY k a
  | .str a => binT a
  | x => binO x
def unA (fs : List Fact) (op : UnOp) (S : St) (x : AV) : Out := match op, x with
  | .neg, .int k n => okI S k (wrapA k (Int.sub 0 n))
  | .neg, .sym k e => symI fs S k (.sub (.lit 0) e)
  | .xor, .int k n => arXor S k (if k.signed then -1 else k.max) n
  | .not, .bool b => okB S (not b)
  | _, _ => err "unop"

/-! memory's operations -/
def rowOf (S : St) (b : Nat) : Option (List AV) := oif (S.heap.get b) none fun k => match k with | .row cs _ _ => some cs | _ => none
def ld1A (S : St) (a : AV) : Out := match a with
  | .ptr b off => oif (rowOf S b) (err "no row") fun cs => okCell S (nth? off cs)
  | _ => err "load no pointer"
def ldnA (n : Nat) (S : St) (a : AV) : Out := match a with
  | .ptr b off => oif (rowOf S b) (err "no row") fun cs => okCells S (sub? cs off n)
  | _ => err "load no pointer"
def setRow (S : St) (b e : Nat) (o : Option Nat) (v : AV) (x : Option (List AV)) : Out := oif x (err "store") fun cs => seqL cs fun cs => rok v (S.set b (.row cs e o))
def stA (n : Nat) (S : St) (a v : AV) : Out := match a with
  | .ptr b off => oif (S.heap.get b) (err "store no block") fun k => match k with
    | .row cs e o => cnd (allOne v.cells) (cnd (Nat.beq (llen v.cells) n) (setRow S b e o undefA (over? v.cells off cs)) (err "store size")) (err "store what")
    | _ => err "store no row"
  | _ => err "store no pointer"
/-- parts laid over cells -/
def fillA (tm : Tm) (ps : List (Nat × Nat × XA)) : List AV → Option (List AV) :=
  lrec (fun cs => some cs) (fun p ih cs => match p with | (off, n, x) => seqV (ev x tm) fun v => cnd (allOne v.cells) (cnd (Nat.beq (llen v.cells) n) (oif (over? v.cells off cs) none ih) none) none) ps
def newRow (S : St) (e : Nat) (o : Option Nat) (v : AV) (cs : List AV) : Out := seqL cs fun cs => rok v (S.new (.row cs e o))

def natOf (v : AV) : Option Nat := match v with | .int _ (.ofNat n) => some n | _ => none
def bnd (tm : Tm) (d : Nat) (x : Option XA) : Option Nat := oif x (some d) fun x => natOf (ev x tm)
def slsA (tm : Tm) (lo hi : Option XA) (S : St) (x : AV) : Out := match x with
  | .str s => oif (bnd tm 0 lo) (err "slice") fun l => oif (bnd tm (llen s) hi) (err "slice") fun h =>
      cnd (Nat.ble l h) (oif (sub? s l (Nat.sub h l)) (err "slice out of range") fun r => seqL r fun r => rok (.str r) S) (err "slice lo hi")
  | _ => err "slice no string"
def mkSl (S : St) (b off len : Nat) (c : Cp) : Out := seqN off fun off => seqN len fun len => rok (.slice b off len c) S
/-- a slice of a slice whose capacity is known to be c -/
def slcX (size : Nat) (S : St) (b off c l h m : Nat) : Out :=
  cnd (Nat.ble l h) (cnd (Nat.ble h m) (cnd (Nat.ble m c) (cnd (Nat.beq m l) (mkSl S b off (Nat.sub h l) (.ex 0)) (seqN (Nat.sub m l) fun r => mkSl S b (off + l * size) (Nat.sub h l) (.ex r))) (err "slice cap")) (err "slice max")) (err "slice lo hi")
/-- a slice of a slice with more behind it: so many elements are known to be there -/
def slcO (tm : Tm) (size : Nat) (mx : Option XA) (S : St) (b off k l h kn : Nat) : Out := oif mx
  (cnd (Nat.ble l h) (cnd (Nat.ble h kn) (cnd (Nat.blt l kn) (seqN (k + l) fun k => mkSl S b (off + l * size) (Nat.sub h l) (.op k)) (rok .none0 S)) (err "slice open")) (err "slice lo hi"))
  fun mx => oif (natOf (ev mx tm)) (err "slice") fun m => slcX size S b off kn l h m
def slcA (tm : Tm) (size : Nat) (lo hi mx : Option XA) (S : St) (x : AV) : Out := match x with
  | .nils => oif (bnd tm 0 lo) (err "slice") fun l => oif (bnd tm 0 hi) (err "slice") fun h => oif (bnd tm 0 mx) (err "slice") fun m =>
      cnd (Nat.beq l 0) (cnd (Nat.beq h 0) (cnd (Nat.beq m 0) (rok .nils S) (err "slice")) (err "slice")) (err "slice")
  | .slice b off len (.ex c) => oif (bnd tm 0 lo) (err "slice") fun l => oif (bnd tm len hi) (err "slice") fun h => oif (bnd tm c mx) (err "slice") fun m => slcX size S b off c l h m
  | .slice b off len (.op k) => oif (bnd tm 0 lo) (err "slice") fun l => oif (bnd tm len hi) (err "slice") fun h => oif (S.heap.get b) (err "slice") fun blk => match blk with
    | .row cs _ (some s) => cnd (Nat.beq s size) (cnd (Nat.beq off (k * size)) (cnd (Nat.blt 0 size) (seqN (Nat.div (Nat.sub (llen cs) off) size) fun kn => slcO tm size mx S b off k l h kn) (err "slice size")) (err "slice place")) (err "slice size")
    | _ => err "slice no open row"
  | _ => err "slice"
def slaA (tm : Tm) (n size : Nat) (lo hi : Option XA) (S : St) (x : AV) : Out := match x with
  | .ptr b off => oif (bnd tm 0 lo) (err "slice") fun l => oif (bnd tm n hi) (err "slice") fun h => slcX size S b off n l h n
  | _ => err "slice no array"

def okPtr (S : St) (b off : Nat) : Out := seqN off fun off => rok (.ptr b off) S
def fadA (off : Nat) (S : St) (x : AV) : Out := match x with | .ptr b o => okPtr S b (o + off) | _ => err "fields address"
def fldA (agg : Bool) (off n : Nat) (S : St) (x : AV) : Out := match x with
  | .agg cs => cnd agg (okCells S (sub? cs off n)) (okCell S (nth? off cs))
  | _ => err "field"
def iadA (size : Nat) (S : St) (x i : AV) : Out := match x with
  | .slice b off len _ => oif (natOf i) (err "index") fun n => cnd (Nat.blt n len) (okPtr S b (off + n * size)) (err "index out of range")
  | _ => err "index no slice"
def iaaA (m size : Nat) (S : St) (x i : AV) : Out := match x with
  | .ptr b off => oif (natOf i) (err "index") fun n => cnd (Nat.blt n m) (okPtr S b (off + n * size)) (err "index out of range")
  | _ => err "index no array"
def ixsA (S : St) (x i : AV) : Out := match x with
  | .str s => oif (natOf i) (err "index") fun n => oif (nth? n s) (err "index out of range") fun b => seqN b fun b => rok (.int .u8 (.ofNat b)) S
  | _ => err "index no string"
def ixaA (m size : Nat) (agg : Bool) (S : St) (x i : AV) : Out := match x with
  | .agg cs => oif (natOf i) (err "index") fun n => cnd (Nat.blt n m) (cnd agg (okCells S (sub? cs (n * size) size)) (okCell S (nth? (n * size) cs))) (err "index out of range")
  | _ => err "index no array"

/-! maps -/
/-- a key of its kind -/
def keyOk (kk : KK) (k : AV) : Bool := match kk, k with
  | .nt, .int _ _ => true
  | .st, .str _ => true
  | .bl, .bool _ => true
  | .ag l, .agg cs => cnd (cellsOk l cs) (cnd (offsOk l 0) (Nat.beq (llen l) (llen cs)) false) false
  | _, _ => false
def findE0 (kk : KK) (k : AV) : List Ent → Option (Option (Nat × Ent)) := lrec (some none) (fun e ih => oif (keyEq kk k e.key) none fun r => cnd r (some (some (0, e))) (oif ih none fun f => oif f (some none) fun p => some (some (Nat.succ p.1, p.2))))
def findE (kk : KK) (k : AV) (es : List Ent) : Option (Option (Nat × Ent)) := cnd (keyOk kk k) (findE0 kk k es) none
def mapOf (S : St) (m : Nat) : Option (List Ent × Nat) := oif (S.heap.get m) none fun k => match k with | .map es c => some (es, c) | _ => none
def setE (e : Ent) : Nat → List Ent → Option (List Ent) := nrec (fun l => match l with | [] => none | _ :: l => some (e :: l)) (fun ih l => match l with | [] => none | x :: l => oif (ih l) none fun r => some (x :: r))
def delE : Nat → List Ent → List Ent := nrec (fun l => match l with | [] => [] | _ :: l => l) (fun ih l => match l with | [] => [] | x :: l => x :: ih l)
def okPair (S : St) (ok : Bool) (v : AV) (is : Bool) : Out := cnd ok (rok (.tup [v, .bool is]) S) (rok v S)
def lkpA (kk : KK) (zero : AV) (ok : Bool) (S : St) (m k : AV) : Out := match m with
  | .nilm => cnd (keyOk kk k) (okPair S ok zero false) (err "key")
  | .mapv r => oif (mapOf S r) (err "lookup") fun p => oif (findE kk k p.1) (err "key") fun f => oif f (okPair S ok zero false) fun q => okPair S ok q.2.val true
  | _ => err "lookup"
def setMap (S : St) (r c : Nat) (v : AV) (es : List Ent) : Out := seqL es fun es => seqN c fun c => rok v (S.set r (.map es c))
def putE (S : St) (r : Nat) (es : List Ent) (c : Nat) (k v : AV) (f : Option (Nat × Ent)) : Out :=
  oif f (setMap S r (Nat.succ c) undefA (es ++ [⟨k, v, c⟩])) fun q => oif (setE ⟨k, v, q.2.born⟩ q.1 es) (err "update") fun es => setMap S r c undefA es
def mupA (kk : KK) (S : St) (m k v : AV) : Out := match m with
  | .mapv r => oif (mapOf S r) (err "update") fun p => oif (findE kk k p.1) (err "key") fun f => putE S r p.1 p.2 k v f
  | _ => err "update"
def menA (kk : KK) (zero : AV) (S : St) (m k : AV) : Out := match m with
  | .mapv r => oif (mapOf S r) (err "entry") fun p => oif (findE kk k p.1) (err "key") fun f =>
      oif f (setMap S r (Nat.succ p.2) (.tup [zero, .int .i64 (.ofNat p.2)]) (p.1 ++ [⟨k, zero, p.2⟩])) fun q => oif (setE ⟨k, q.2.val, q.2.born⟩ q.1 p.1) (err "entry") fun es => setMap S r p.2 (.tup [q.2.val, .int .i64 (.ofNat q.2.born)]) es
  | _ => err "entry"
def bornE (n : Nat) (v : AV) : List Ent → Option (List Ent) := lrec none (fun e ih => cnd (Nat.beq e.born n) (some [⟨e.key, v, e.born⟩]) (oif ih none fun r => some (e :: r)))
/-- the entry that was born then gets the value -/
def storeE (n : Nat) (v : AV) : List Ent → List Ent → Option (List Ent)
  | [], _ => none
  | e :: l, acc => cnd (Nat.beq e.born n) (some (acc.reverse ++ (⟨e.key, v, e.born⟩ :: l))) (storeE n v l (e :: acc))
def mstA (S : St) (m s v : AV) : Out := match m with
  | .mapv r => oif (mapOf S r) (err "entry") fun p => oif (natOf s) (err "entry") fun n => oif (storeE n v p.1 []) (err "entry") fun es => setMap S r p.2 undefA es
  | _ => err "entry"
def delA (kk : KK) (S : St) (m k : AV) : Out := match m with
  | .nilm => cnd (keyOk kk k) (rok (.tup []) S) (err "key")
  | .mapv r => oif (mapOf S r) (err "delete") fun p => oif (findE kk k p.1) (err "key") fun f => oif f (rok (.tup []) S) fun q => setMap S r p.2 (.tup []) (delE q.1 p.1)
  | _ => err "delete"

/-! slices -/
def lnsA (S : St) (x : AV) : Out := match x with
  | .str s => okN S (llen s)
  | _ => err "len"
def lenA (S : St) (x : AV) : Out := match x with
  | .slice _ _ n _ => okN S n
  | .none0 => okN S 0
  | .nils => okN S 0
  | _ => err "len"
def lnmA (S : St) (x : AV) : Out := match x with
  | .nilm => okN S 0
  | .mapv r => oif (mapOf S r) (err "len") fun p => okN S (llen p.1)
  | _ => err "len"
def capA (S : St) (x : AV) : Out := match x with
  | .slice _ _ _ (.ex c) => okN S c
  | .nils => okN S 0
  | _ => err "cap"
def bytesOf : List AV → Option (List Nat) := lrec (some []) (fun v ih => match v with | .int .u8 (.ofNat n) => cnd (Nat.blt n 256) (oif ih none fun r => some (n :: r)) none | _ => none)
def ofBytes (s : List Nat) : List AV := lrec [] (fun b ih => .int .u8 (.ofNat b) :: ih) s
/-- a bound that keeps what is made within reach -/
def fits (n : Nat) : Bool := Nat.blt n 1000000
/-- the cells that an operand brings -/
def zerA (zero : List AV) (x : AV) : Option (Nat × List AV) := match x with
  | .int .i64 (.ofNat n) => cnd (fits n) (some (n, reps zero n)) none
  | _ => none
def srcA (S : St) (size : Nat) (x : AV) : Option (Nat × List AV) := match x with
  | .nils => some (0, [])
  | .none0 => some (0, [])
  | .slice b off n _ => oif (rowOf S b) none fun cs => oif (sub? cs off (n * size)) none fun l => some (n, l)
  | .str s => cnd (Nat.beq size 1) (some (llen s, ofBytes s)) none
  | _ => none
def appN (e size : Nat) (S : St) (n : Nat) (cs : List AV) : Out := cnd (fits n) (seqL cs fun cs => rok (.slice S.next 0 n (.op 0)) (S.new (.row cs e (some size)))) (err "append long")
/-- an append to a slice with more behind it: within what is known to be there; else, room or not, the block is given up -/
def appO (e size : Nat) (S : St) (b off len k n : Nat) (l cs : List AV) (e' : Nat) (o : Option Nat) : Out := match o with
  | some s => cnd (Nat.beq s size) (cnd (Nat.beq off (k * size)) (oif (over? l (off + len * size) cs)
      (cnd (Nat.beq k 0) (oif (sub? cs 0 (len * size)) (err "append") fun old => appN e size (S.drop b) n (old ++ l)) (err "append inside"))
      fun cs => seqL cs fun cs => rok (.slice b off n (.op k)) (S.set b (.row cs e' (some s)))) (err "append place")) (err "append size")
  | none => err "append no open row"
def appX (e size : Nat) (S : St) (b off len : Nat) (cp : Cp) (m : Nat) (l cs : List AV) (e' : Nat) (o : Option Nat) : Out :=
  seqN (len + m) fun n => cnd (allOne l) (match cp with
    | .ex c => cnd (Nat.ble n c) (setRow S b e' o (.slice b off n cp) (over? l (off + len * size) cs)) (oif (sub? cs off (len * size)) (err "append") fun old => appN e size S n (old ++ l))
    | .op k => appO e size S b off len k n l cs e' o) (err "append what")
def appA (e size : Nat) (S : St) (s x : AV) : Out := oif (srcA S size x) (err "append source") fun p => match s with
  | .nils => cnd (Nat.beq p.1 0) (rok .nils S) (cnd (allOne p.2) (appN e size S p.1 p.2) (err "append what"))
  | .slice b off len cp => oif (S.heap.get b) (err "append") fun k => match k with
    | .row cs e' o => appX e size S b off len cp p.1 p.2 cs e' o
    | _ => err "append"
  | _ => err "append"
def apzA (e size : Nat) (zero : List AV) (S : St) (s x : AV) : Out := match s with
  | .nils => oif (zerA zero x) (err "append zeros") fun p => cnd (Nat.beq p.1 0) (err "append no zeros") (appN e size S p.1 p.2)
  | _ => err "append zeros"
def cpyA (size : Nat) (S : St) (d x : AV) : Out := oif (srcA S size x) (err "copy source") fun p => match d with
  | .nils => okN S 0
  | .slice b off len _ => oif (S.heap.get b) (err "copy") fun k => match k with
    | .row cs e o => seqN (Nat.min p.1 len) fun n => cnd (allOne p.2) (oif (take? (n * size) p.2) (err "copy") fun l => setRow S b e o (.int .i64 (.ofNat n)) (over? l off cs)) (err "copy")
    | _ => err "copy"
  | _ => err "copy"
def clrA (size : Nat) (zero : List AV) (S : St) (x : AV) : Out := match x with
  | .nils => rok (.tup []) S
  | .none0 => rok (.tup []) S
  | .slice b off n _ => oif (S.heap.get b) (err "clear") fun k => match k with
    | .row cs e o => setRow S b e o (.tup []) (over? (reps zero n) off cs)
    | _ => err "clear"
  | _ => err "clear"
def maxY (fs : List Fact) (mx : Bool) (S : St) (x y : AV) : Out :=
  oif (AV.kind x) (err "max") fun k => oif (AV.kind y) (err "max") fun j => oif (IE.of x) (err "max") fun a => oif (IE.of y) (err "max") fun b => cnd (kindEq k j)
    (cnd mx (oif (askLt fs a b) (err (askLtS a b)) fun r => cnd r (rok y S) (rok x S)) (oif (askLt fs b a) (err (askLtS b a)) fun r => cnd r (rok y S) (rok x S))) (err "kinds")
def max2 (fs : List Fact) (mx : Bool) (S : St) (x y : AV) : Out := match x, y with
  | .int k a, .int _ b => cnd (cnd mx (ilt a b) (ilt b a)) (rok (.int k b) S) (rok (.int k a) S)
  | x, y => maxY fs mx S x y
def mksA (e size : Nat) (zero : List AV) (S : St) (l c : AV) : Out := oif (natOf l) (err "make") fun l => oif (natOf c) (err "make") fun c =>
  cnd (Nat.ble l c) (cnd (fits (c * size)) (newRow S e none (.slice S.next 0 l (.ex c)) (reps zero c)) (err "make long")) (err "make len cap")

/-! one operation -/
abbrev OpT := List Fact → CallT → Tm → St → Out
def o1 (x : XA) (f : St → AV → Out) : OpT := fun _ _ tm S => f S (ev x tm)
def o2 (x y : XA) (f : St → AV → AV → Out) : OpT := fun _ _ tm S => f S (ev x tm) (ev y tm)
def o3 (x y z : XA) (f : St → AV → AV → AV → Out) : OpT := fun _ _ tm S => seqV (ev z tm) fun z => f S (ev x tm) (ev y tm) z
def oMv (x : XA) : OpT := fun _ _ tm S => rok (ev x tm) S
def pickA (a b : XA) (tm : Tm) (S : St) (c : AV) : Out := match c with | .bool c => cnd c (rok (ev a tm) S) (rok (ev b tm) S) | _ => err "pick"
def oPick (c a b : XA) : OpT := fun _ _ tm S => pickA a b tm S (ev c tm)
def oRow (e : Nat) (zero : List AV) : OpT := fun _ _ _ S => newRow S e none (.ptr S.next 0) zero
def oBox (e : Nat) (x : XA) : OpT := fun _ _ tm S => seqV (ev x tm) fun v => cnd (allOne v.cells) (newRow S e none (.ptr S.next 0) v.cells) (err "box")
def oBuild (zero : List AV) (ps : List (Nat × Nat × XA)) : OpT := fun _ _ tm S => okCells S (fillA tm ps zero)
def oBsl (e : Nat) (zero : List AV) (n : Nat) (ps : List (Nat × Nat × XA)) : OpT := fun _ _ tm S => oif (fillA tm ps zero) (err "slice literal") fun cs => newRow S e none (.slice S.next 0 n (.ex n)) cs
def nckA (S : St) (x : AV) : Out := match x with
  | .ptr b o => rok (.ptr b o) S
  | .glob g => rok (.glob g) S
  | .fn (.func g) a b => rok (.fn (.func g) a b) S
  | _ => err "nil"
def oBin (op : BinOp) (flat : EK) (x y : XA) : OpT := fun fs _ tm S => binA (ev x tm) fs op flat S (ev y tm)
def oUn (op : UnOp) (x : XA) : OpT := fun fs _ tm S => unA fs op S (ev x tm)
def cviA (k : IntKind) (fs : List Fact) (S : St) (x : AV) : Out := match x with
  | .int _ n => okI S k (wrapA k n)
  | .sym _ e => symI fs S k e
  | _ => err "convert"
def oCvi (k : IntKind) (x : XA) : OpT := fun fs _ tm S => cviA k fs S (ev x tm)
def cssA (S : St) (x : AV) : Out := match x with
  | .str l => rok (.str l) S
  | _ => err "convert"
def oBad : OpT := fun _ _ _ _ => err "this operation is not taken"
def s2bA (e : Nat) (S : St) (x : AV) : Out := match x with
  | .str l => cnd (fits (llen l)) (newRow S e (some 1) (.slice S.next 0 (llen l) (.op 0)) (ofBytes l)) (err "convert long")
  | _ => err "convert"
def b2sA (S : St) (x : AV) : Out := match x with
  | .nils => rok (.str []) S
  | .none0 => rok (.str []) S
  | .slice b off n _ => oif (rowOf S b) (err "convert") fun cs => oif (sub? cs off n) (err "convert") fun l => oif (bytesOf l) (err "convert bytes") fun s => seqL s fun s => rok (.str s) S
  | _ => err "convert"
def oMkf (f : Fn) (fs cs : List XA) : OpT := fun _ _ tm S => evs tm fs fun a => evs tm cs fun b => rok (.fn f a b) S
def oMkm : OpT := fun _ _ _ S => rok (.mapv S.next) (S.new (.map [] 0))
def rgmA (S : St) (x : AV) : Out := match x with
  | .nilm => rok (.ptr S.next 0) (S.new (.mit none 0))
  | .mapv r => oif (mapOf S r) (err "range") fun p => rok (.ptr S.next 0) (S.new (.mit (some r) p.2))
  | _ => err "range over a map"
def nxtA (S : St) (x : AV) : Out := match x with
  | .ptr b 0 => oif (S.heap.get b) (err "next") fun k => match k with
    | .mit none _ => rok (.tup [.bool false]) S
    | .mit (some r) _ => oif (mapOf S r) (err "next") fun p => (match p.1 with | [] => rok (.tup [.bool false]) S | _ => err "next of some")
    | _ => err "next"
  | _ => err "next"
def extA (i : Nat) (S : St) (x : AV) : Out := match x with
  | .tup l => okCell S (nth? i l)
  | _ => err "extract"
def mxmA (fs : List Fact) (mx : Bool) (S : St) : List AV → AV → Out := lrec (fun v => rok v S) (fun y ih v => R.bind (max2 fs mx S v y) fun p => ih p.1)
def oMxm (mx : Bool) (x : XA) (xs : List XA) : OpT := fun fs _ tm S => evs tm xs fun l => mxmA fs mx S l (ev x tm)
def calA (call : CallT) (args : List AV) (S : St) (f : AV) : Out := match f with
  | .fn (.func g) first cap => call g (first ++ (args ++ cap)) S
  | _ => err "call what"
def oCal (f : XA) (args : List XA) : OpT := fun _ call tm S => evs tm args fun l => calA call l S (ev f tm)
def mkiA (t : Nat) (S : St) (x : AV) : Out := rok (.iface t x) S
def oMki (t : Nat) (x : XA) : OpT := fun _ _ tm S => seqV (ev x tm) fun v => rok (.iface t v) S
def tasA (t : Nat) (S : St) (x : AV) : Out := match x with
  | .iface u v => cnd (Nat.beq u t) (rok v S) (err "assertion")
  | _ => err "assertion"
def XOp.run (o : XOp) : OpT := match o with
  | .mv x => oMv x
  | .pick c a b => oPick c a b
  | .row e z => oRow e z
  | .box e x => oBox e x
  | .build z ps => oBuild z ps
  | .bsl e z n ps => oBsl e z n ps
  | .ld1 a => o1 a ld1A
  | .ldn n a => o1 a (ldnA n)
  | .st n a x => o2 a x (stA n)
  | .nck x => o1 x nckA
  | .bin op fl x y => oBin op fl x y
  | .un op x => oUn op x
  | .cvi k x => oCvi k x
  | .css x => o1 x cssA
  | .bad => oBad
  | .s2b e x => o1 x (s2bA e)
  | .b2s x => o1 x b2sA
  | .mkf f a b => oMkf f a b
  | .mkm => oMkm
  | .mks e s z l c => o2 l c (mksA e s z)
  | .sls x lo hi => fun _ _ tm S => slsA tm lo hi S (ev x tm)
  | .slc n x lo hi mx => fun _ _ tm S => slcA tm n lo hi mx S (ev x tm)
  | .sla m n x lo hi => fun _ _ tm S => slaA tm m n lo hi S (ev x tm)
  | .fad off x => o1 x (fadA off)
  | .fld a off n x => o1 x (fldA a off n)
  | .iad n x i => o2 x i (iadA n)
  | .iaa m n x i => o2 x i (iaaA m n)
  | .ixs x i => o2 x i ixsA
  | .ixa m n a x i => o2 x i (ixaA m n a)
  | .lkp kk z ok m k => o2 m k (lkpA kk z ok)
  | .mup kk m k v => o3 m k v fun S m k v => seqV k fun k => mupA kk S m k v
  | .men kk z m k => o2 m k fun S m k => seqV k fun k => menA kk z S m k
  | .mst m s v => o3 m s v mstA
  | .rgm x => o1 x rgmA
  | .nxt x => o1 x nxtA
  | .ext x i => o1 x (extA i)
  | .app e n s x => o2 s x (appA e n)
  | .apz e n z s x => o2 s x (apzA e n z)
  | .cpy n d x => o2 d x (cpyA n)
  | .len x => o1 x lenA
  | .lns x => o1 x lnsA
  | .lnm x => o1 x lnmA
  | .cap x => o1 x capA
  | .mxm mx x xs => oMxm mx x xs
  | .del kk m k => o2 m k (delA kk)
  | .clr n z x => o1 x (clrA n z)
  | .cal f l => oCal f l
  | .mki t x => oMki t x
  | .tas t x => o1 x (tasA t)

/-! code -/
structure Fr where
  tm : Tm
  st : St
/-- is the operation wanted? -/
def wantV (w : Bool) (v : AV) : R Bool := match v with
  | .bool b => .ok (bEq b w)
  | .tup [] => .ok false
  | _ => .err "guard"
def wantX (g : Option XG) (tm : Tm) : R Bool := oif g (.ok true) fun g => wantV g.want (eTmp g.slot tm)

/-- are two values the same, letter by letter? Of the kinds that a load may bring. -/
def cpEq (a b : Cp) : Bool := match a, b with | .ex n, .ex m => Nat.beq n m | .op n, .op m => Nat.beq n m | _, _ => false
def same1 (x y : AV) : Bool := match x, y with
  | .bool a, .bool b => bEq a b
  | .int j a, .int k b => cnd (kindEq j k) (ibeq a b) false
  | .sym j a, .sym k b => cnd (kindEq j k) (ieq a b) false
  | .str a, .str b => leq a b
  | .ptr a i, .ptr b j => cnd (Nat.beq a b) (Nat.beq i j) false
  | .nilp, .nilp => true
  | .slice a i n c, .slice b j m d => cnd (Nat.beq a b) (cnd (Nat.beq i j) (cnd (Nat.beq n m) (cpEq c d) false) false) false
  | .nils, .nils => true
  | .mapv a, .mapv b => Nat.beq a b
  | .nilm, .nilm => true
  | .opq i, .opq j => Nat.beq i j
  | .none0, .none0 => true
  | _, _ => false
def sameL : List AV → List AV → Bool := lrec (fun b => match b with | [] => true | _ :: _ => false) (fun x ih b => match b with | [] => false | y :: b => cnd (same1 x y) (ih b) false)
def same2 (x y : AV) : Bool := match x, y with
  | .agg a, .agg b => sameL a b
  | x, y => same1 x y
def sameM : List AV → List AV → Bool := lrec (fun b => match b with | [] => true | _ :: _ => false) (fun x ih b => match b with | [] => false | y :: b => cnd (same2 x y) (ih b) false)
def sameV (x y : AV) : Bool := match x, y with
  | .tup a, .tup b => sameM a b
  | x, y => same2 x y
def sameR (v : AV) (x : Out) : Bool := match x with | .ok (u, _) => sameV u v | .err _ => false
def chk1 (fs : List Fact) (call : CallT) (tm : Tm) (S : St) (k : XK) : Bool := match wantX k.g tm with
  | .ok w => cnd w (sameR (eTmp k.d tm) (k.op.run fs call tm S)) true
  | .err _ => false
def chkX (fs : List Fact) (call : CallT) (tm : Tm) (S : St) (l : List XK) : Bool := lrec true (fun k ih => cnd (chk1 fs call tm S k) ih false) l

def whyChk (_ : List Fact) (_ : CallT) (_ : Tm) (_ : St) (_ : List XK) : String := "a load has turned"
abbrev OpsT := List Fact → CallT → Tm → St → R Fr
def fin (ih : OpsT) (fs : List Fact) (call : CallT) (chk : List XK) (tm : Tm) (S : St) : R Fr := match chk with
  | [] => later (ih fs call tm S)
  | k :: l => cnd (chkX fs call tm S (k :: l)) (later (ih fs call tm S)) (.err (whyChk fs call tm S (k :: l)))
def goOn (d : Option Nat) (chk : List XK) (ih : OpsT) (fs : List Fact) (call : CallT) (tm : Tm) (p : AV × St) : R Fr := match p with
  | (v, S) => seqV v fun v => seqT (putO d v tm) fun tm => seqSt S fun S => fin ih fs call chk tm S
def skipO (d : Option Nat) (ih : OpsT) (fs : List Fact) (call : CallT) (tm : Tm) (S : St) : R Fr := seqT (putO d undefA tm) fun tm => later (ih fs call tm S)
def stepX (x : XS) (ih : OpsT) : OpsT := match x with
  | ⟨d, none, op, chk⟩ => fun fs call tm S => R.bind (op.run fs call tm S) (goOn d chk ih fs call tm)
  | ⟨d, some g, op, chk⟩ => fun fs call tm S => R.bind (wantV g.want (eTmp g.slot tm)) fun w => cnd w (R.bind (op.run fs call tm S) (goOn d chk ih fs call tm)) (skipO d ih fs call tm S)
def opsX (l : List XS) : OpsT := lrec (fun _ _ tm S => .ok ⟨tm, S⟩) stepX l

inductive Ex where
  | normal | exit (id : Nat) | ret
abbrev CoT := List Fact → CallT → Tm → St → R (Ex × Fr)
def nrm (F : Fr) : R (Ex × Fr) := .ok (.normal, F)
def cReg (l : List XS) : CoT := fun fs call tm S => R.bind (opsX l fs call tm S) nrm
def thenX (b : CoT) (fs : List Fact) (call : CallT) (p : Ex × Fr) : R (Ex × Fr) := match p with
  | (.normal, ⟨tm, S⟩) => later (b fs call tm S)
  | p => .ok p
def cSeq (a b : CoT) : CoT := fun fs call tm S => R.bind (a fs call tm S) (thenX b fs call)
def condX (a b : CoT) (c : AV) : CoT := match c with
  | .bool c => fun fs call tm S => cnd c (a fs call tm S) (b fs call tm S)
  | _ => fun _ _ _ _ => .err "cond"
def cCond (c : XA) (a b : CoT) : CoT := fun fs call tm S => condX a b (ev c tm) fs call tm S
def inBlk (id : Nat) (p : Ex × Fr) : R (Ex × Fr) := match p with
  | (.exit j, F) => cnd (Nat.beq j id) (.ok (.normal, F)) (.ok (.exit j, F))
  | p => .ok p
def cBlk (id : Nat) (a : CoT) : CoT := fun fs call tm S => R.bind (a fs call tm S) (inBlk id)
def roundX (p : Ex × Fr) : R (Sum (Ex × Fr) Fr) := match p with
  | (.normal, F) => .ok (.inr F)
  | p => .ok (.inl p)
def rounds : Nat := 100000
def bodyX (a : CoT) (fs : List Fact) (call : CallT) (F : Fr) : R (Sum (Ex × Fr) Fr) := match F with | ⟨tm, S⟩ => R.bind (a fs call tm S) roundX
def cLoop (a : CoT) : CoT := fun fs call tm S => iter (bodyX a fs call) rounds ⟨tm, S⟩
def cBad : CoT := fun _ _ _ _ => .err "this code is not taken"
def cSkip : CoT := fun _ _ tm S => .ok (.normal, ⟨tm, S⟩)
def cExit (i : Nat) : CoT := fun _ _ tm S => .ok (.exit i, ⟨tm, S⟩)
def cRet : CoT := fun _ _ tm S => .ok (.ret, ⟨tm, S⟩)
def XC.run (c : XC) : CoT := XC.rec (motive := fun _ => CoT) cSkip cBad cReg (fun _ _ a b => cSeq a b) (fun c _ _ a b => cCond c a b) (fun id _ a => cBlk id a) (fun _ a => cLoop a) cExit cRet c

def resX (tm : Tm) (S : St) : List XR → Option (List AV) := lrec (some []) (fun r ih => oif ih none fun l => match r with
  | .t n => some (eTmp n tm :: l)
  | .c1 n => (match ld1A S (eTmp n tm) with | .ok (v, _) => some (v :: l) | .err _ => none)
  | .cn m n => (match ldnA m S (eTmp n tm) with | .ok (v, _) => some (v :: l) | .err _ => none))
def tupA (l : List AV) : AV := match l with | [v] => v | l => .tup l
def seqVs {β : Type} (l : List AV) : (List AV → β) → β := lrec (fun f => f []) (fun x ih f => seqV x fun v => ih fun r => f (v :: r)) l
def leave (res : List XR) (p : Ex × Fr) : Out := match p with
  | (.exit _, _) => err "exit"
  | (_, ⟨tm, S⟩) => oif (resX tm S res) (err "results") fun l => seqVs l fun l => seqV (tupA l) fun v => .ok (v, S)
/-- the frame that a call begins with -/
def argsX (l : List AV) : Nat → Tm → Tm := lrec (fun _ tm => tm) (fun v ih i tm => seqV v fun v => seqT (tm.put i (some v)) fun tm => ih (Nat.succ i) tm) l
inductive XE where
  | code (f : XF)
  | ext (f : CallT → List AV → St → Out)
def enterX (fs : List Fact) (call : CallT) (e : XE) (args : List AV) (S : St) : Out := match e with
  | .code ⟨nt, body, res⟩ => cnd (Nat.ble (llen args) nt) (seqT (argsX args 0 .lf) fun tm => R.bind (body.run fs call tm S) (leave res)) (err "arguments")
  | .ext f => f call args S
def callX (T : Tr XE) (fs : List Fact) (call : CallT) : CallT := fun f args S => oif (T.get f) (err "no such function") fun e => enterX fs call e args S
def run (T : Tr XE) (fs : List Fact) (depth : Nat) : CallT := nrec (fun _ _ _ => err "depth") (callX T fs) depth
end
end Go.Proofs.YtdimeaooekhkhaaGreat.AX
