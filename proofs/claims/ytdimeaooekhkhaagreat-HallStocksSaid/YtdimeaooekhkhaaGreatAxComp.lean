/- How the code of a program is laid out for the runner. No function of the program is walked here. -/
import Derived.Test.YtdimeaooekhkhaaGreatAxMain
set_option linter.unusedVariables false
namespace Go.Proofs.YtdimeaooekhkhaaGreat.AX
noncomputable section

def AV.of1 : Value → Option AV
  | .bool b => some (.bool b)
  | .int k n => some (.int k n)
  | .string s => some (.str (s.data.toList.map UInt8.toNat))
  | .pointer none => some .nilp
  | .slice none 0 0 => some .nils
  | .map none => some .nilm
  | .nilFunc => some .niln
  | .nilIface => some .nili
  | _ => none
def AV.ofs : List Value → Option (List AV)
  | [] => some []
  | v :: l => match AV.of1 v, AV.ofs l with
    | some a, some r => some (a :: r)
    | _, _ => none
def AV.ofV : Value → Option AV
  | .agg cs => (AV.ofs cs.toList).map .agg
  | v => AV.of1 v
def XA.of : Operand → Option XA
  | .tmp n => some (.t n)
  | .const v => (AV.ofV v).map .c
  | .global g => some (.c (.glob g))
  | .func f => some (.c (.fn (.func f) [] []))
def XA.ofs : List Operand → Option (List XA)
  | [] => some []
  | v :: l => match XA.of v, XA.ofs l with
    | some a, some r => some (a :: r)
    | _, _ => none
/-- an operand that may be missing -/
def XA.ofO : Option Operand → Option (Option XA)
  | none => some none
  | some x => (XA.of x).map some

def cSize (P : Program) (t : TypeId) : Option Nat := (P.info? t).map (·.size)
def cAgg (P : Program) (t : TypeId) : Option Bool := (P.underlying t).map fun | .struct _ | .array _ _ => true | _ => false
/-- the zero value's cells, as many as the type's size -/
def cZero (P : Program) (t : TypeId) : Option (List AV) :=
  match P.info? t with
  | some i => match i.zero with
    | some z => match AV.ofs z.cells.toList with
      | some l => if l.length = i.size then some l else none
      | none => none
    | none => none
  | none => none
/-- the zero value -/
def cZeroV (P : Program) (t : TypeId) : Option AV :=
  match P.info? t with
  | some i => match i.zero with
    | some z => AV.ofV z
    | none => none
  | none => none
/-- of a slice's type: the element's type, its size (not nought), its zero cells; its bytes are few -/
def cSlice (P : Program) (t : TypeId) : Option (Nat × Nat × List AV) :=
  match P.underlying t with
  | some (.slice e) => match P.info? e, cZero P e with
    | some i, some z => if 0 < i.size ∧ i.bytes ≤ 1048576 then some (e, i.size, z) else none
    | _, _ => none
  | _ => none
/-- a cell's kind -/
def cSK (P : Program) (t : TypeId) : Option SK := match P.underlying t with
  | some .bool => some .bl
  | some (.int _) => some .nt
  | some .string => some .st
  | _ => none
def cFlatF (P : Program) : List Field → Option (List (Nat × SK))
  | [] => some []
  | f :: l => if f.name = "_" then none else match cSK P f.type, cFlatF P l with
    | some s, some r => some ((f.offset, s) :: r)
    | _, _ => none
def cFlatA (s : SK) (n : Nat) : List (Nat × SK) := (List.range n).map fun i => (i, s)
/-- of a struct's or an array's type, all of whose parts are one cell: where they lie, and of what kind they are -/
def cFlat (P : Program) (t : TypeId) : Option (List (Nat × SK)) := if P.eqGuardType P.depth t = true then none else match P.underlying t with
  | some (.struct fs) => if P.stoodInHeld t = true then none else cFlatF P fs.toList
  | some (.array n e) => match cSK P e, cSize P e with
    | some s, some 1 => some (cFlatA s n)
    | _, _ => none
  | _ => none
def cEqAg (P : Program) (t : TypeId) : EK := match cFlat P t with
  | some l => .ag l
  | none => .no
def cEq (P : Program) (op : BinOp) (t : TypeId) : EK := match op with
  | .eql | .neq => match P.underlying t with
    | some .bool => .bl
    | some (.pointer e) => match P.info? e with
      | some i => if i.size = 0 then .no else .ptr
      | none => .no
    | some (.slice _) => .slc
    | some (.map _ _) => .mp
    | some (.func _ _ _) => .fn
    | some (.struct _) => cEqAg P t
    | some (.array _ _) => cEqAg P t
    | _ => .no
  | _ => .no
def cField (P : Program) (t : TypeId) (k : Nat) : Option (Nat × Nat × Bool) :=
  match P.underlying t with
  | some (.struct fs) => match fs[k]? with
    | some f => match cSize P f.type, cAgg P f.type with
      | some n, some a => some (f.offset, n, a)
      | _, _ => none
    | none => none
  | _ => none
def cParts (place : Nat → Option (Nat × Nat)) : List (Nat × Operand) → Option (List (Nat × Nat × XA))
  | [] => some []
  | (i, x) :: l => match place i, XA.of x, cParts place l with
    | some (o, n), some a, some r => some ((o, n, a) :: r)
    | _, _, _ => none
def cBuild (P : Program) (t : TypeId) (ps : List (Nat × Operand)) : Option XOp :=
  match cZero P t, P.underlying t with
  | some z, some (.struct fs) => if fs.toList.all (fun fd => (P.info? fd.type).isSome) = true then (cParts (fun i => (cField P t i).map fun (o, n, _) => (o, n)) ps).map (.build z) else none
  | some z, some (.array _ e) => match cSize P e with
    | some n => (cParts (fun i => some (i * n, n)) ps).map (.build z)
    | none => none
  | _, _ => none
def cBsl (P : Program) (t : TypeId) (n : Nat) (ps : List (Nat × Operand)) : Option XOp :=
  match cSlice P t with
  | some (e, size, z) => if n * size ≤ 16777216 then (cParts (fun i => some (i * size, size)) ps).map (.bsl e (reps z n) n) else none
  | none => none
def cConv (P : Program) (s d : TypeId) (x : XA) : Option XOp :=
  match P.underlying s, P.underlying d with
  | some _, some (.int k) => some (.cvi k x)
  | some .string, some .string => some (.css x)
  | some .string, some (.slice e) => match P.underlying e with
    | some (.int .u8) => none
    | _ => none
  | some (.slice e), some .string => match P.underlying e with
    | some (.int .u8) => some (.b2s x)
    | _ => none
  | _, _ => none
def cMapKey (P : Program) (t : TypeId) : Option (KK × TypeId) :=
  match P.underlying t with
  | some (.map k e) => match P.underlying k with
    | some (.int _) => some (.nt, e)
    | some .string => some (.st, e)
    | some .bool => some (.bl, e)
    | some (.struct _) => (cFlat P k).map fun l => (.ag l, e)
    | _ => none
  | _ => none
def cBuiltin (P : Program) (b : Builtin) (ts : List TypeId) (xs : List XA) : Option XOp :=
  match b, ts, xs with
  | .append, [t, u], [s, x] => match cSlice P t, P.underlying u with
    | some (e, n, z), some (.int _) => some (.apz e n z s x)
    | some (e, n, _), some (.slice _) => some (.app e n s x)
    | some (e, n, _), some .string => if n = 1 then some (.app e n s x) else none
    | _, _ => none
  | .len, t :: _, [x] => match P.underlying t with
    | some (.map _ _) => some (.lnm x)
    | some .string => some (.lns x)
    | some (.slice _) => some (.len x)
    | _ => none
  | .cap, t :: _, [x] => match P.underlying t with
    | some (.slice _) => some (.cap x)
    | _ => none
  | .max, _, x :: l => some (.mxm true x l)
  | .min, _, x :: l => some (.mxm false x l)
  | .delete, t :: _, [m, k] => (cMapKey P t).map fun (kk, _) => .del kk m k
  | .clear, t :: _, [x] => match cSlice P t with
    | some (_, n, z) => some (.clr n z x)
    | none => none
  | _, _, _ => none
def cCall (P : Program) (c : Call) : Option XOp :=
  match XA.ofs c.args.toList with
  | none => none
  | some l => match c.callee with
    | .value f => (XA.of f).map fun f => .cal f l
    | .builtin b => cBuiltin P b c.argTypes.toList l
    | .invoke _ _ => none
def cMakeMap (P : Program) (t : TypeId) (r : Option Operand) : Option XOp :=
  match r with
  | none => some .mkm
  | some (.const (.int _ _)) => match P.underlying t with
    | some (.map _ _) => some .mkm
    | _ => none
  | _ => none
def cNext (it : Operand) (s : Bool) : Option XOp := match s with
  | true => none
  | false => (XA.of it).map .nxt
def cAssert (P : Program) (x : Operand) (t : TypeId) (ok : Bool) : Option XOp := match ok with
  | true => none
  | false => match P.underlying t, XA.of x with
    | some (.interface _), _ => none
    | some _, some x => some (.tas t x)
    | _, _ => none
def compOp? (P : Program) (o : Op) : Option XOp :=
  match o with
  | .move x | .assign x => (XA.of x).map .mv
  | .pick c a b => match XA.of c, XA.of a, XA.of b with
    | some c, some a, some b => some (.pick c a b)
    | _, _, _ => none
  | .alloc e => (cZero P e).map (.row e)
  | .box e x => (XA.of x).map (.box e)
  | .build t ps => cBuild P t ps.toList
  | .buildSlice t n ps => cBsl P t n ps.toList
  | .load t a => match cAgg P t, cSize P t, XA.of a with
    | some true, some n, some a => some (.ldn n a)
    | some false, some _, some a => some (.ld1 a)
    | _, _, _ => none
  | .store t a x => match cSize P t, XA.of a, XA.of x with
    | some n, some a, some x => some (.st n a x)
    | _, _, _ => none
  | .nilCheck x => (XA.of x).map .nck
  | .binOp op t x y _ => match XA.of x, XA.of y with
    | some x, some y => some (.bin op (cEq P op t) x y)
    | _, _ => none
  | .unOp op _ x => (XA.of x).map (.un op)
  | .convert s d x => (XA.of x).bind (cConv P s d)
  | .makeInterface t x => match P.underlying t, XA.of x with
    | some (.interface _), _ => none
    | some _, some x => some (.mki t x)
    | _, _ => none
  | .makeFunc f fs cs => match XA.ofs fs.toList, XA.ofs cs.toList with
    | some a, some b => some (.mkf f a b)
    | _, _ => none
  | .makeMap t r => cMakeMap P t r
  | .slice t x lo hi mx => match P.underlying t, XA.of x, XA.ofO lo, XA.ofO hi, XA.ofO mx with
    | some (.slice _), some x, some lo, some hi, some mx => match cSlice P t with
      | some (_, n, _) => if mx.isSome && hi.isNone then none else some (.slc n x lo hi mx)
      | none => none
    | some (.array n e), some x, some lo, some hi, some none => (cSize P e).map fun k => .sla n k x lo hi
    | _, _, _, _, _ => none
  | .fieldAddr s x f => match cField P s f, XA.of x with
    | some (o, n, _), some x => if n = 0 then none else some (.fad o x)
    | _, _ => none
  | .field t x f => match cField P t f, XA.of x with
    | some (o, n, a), some x => some (.fld a o n x)
    | _, _ => none
  | .indexAddr t x i => match P.underlying t, XA.of x, XA.of i with
    | some (.slice e), some x, some i => (cSize P e).map fun n => .iad n x i
    | some (.array n e), some x, some i => (cSize P e).map fun k => .iaa n k x i
    | _, _, _ => none
  | .index t x i => match P.underlying t, XA.of x, XA.of i with
    | some .string, some x, some i => some (.ixs x i)
    | some (.array n e), some x, some i => match cSize P e, cAgg P e with
      | some k, some a => some (.ixa n k a x i)
      | _, _ => none
    | _, _, _ => none
  | .lookup t m k ok => match cMapKey P t, XA.of m, XA.of k with
    | some (kk, e), some m, some k => (cZeroV P e).map fun z => .lkp kk z ok m k
    | _, _, _ => none
  | .mapUpdate t m k v | .insert t m k v => match cMapKey P t, XA.of m, XA.of k, XA.of v with
    | some (kk, _), some m, some k, some v => some (.mup kk m k v)
    | _, _, _, _ => none
  | .range t x => match P.underlying t, XA.of x with
    | some (.map _ _), some x => some (.rgm x)
    | _, _ => none
  | .next it s => cNext it s
  | .typeAssert x _ t ok => cAssert P x t ok
  | .extract x i => (XA.of x).map fun x => .ext x i
  | .call c => cCall P c
  | _ => none
def compOp (P : Program) (o : Op) : XOp := (compOp? P o).getD .bad

/-- what depends on its operands alone -/
def XOp.pure : XOp → Bool
  | .mv _ | .pick .. | .build .. | .nck _ | .bin .. | .un .. | .cvi .. | .css _ | .mkf .. | .fad .. | .fld .. | .iad .. | .ixs .. | .len _ | .lns _ | .cap _ | .mxm .. | .ext .. | .mki .. | .tas .. | .iaa .. | .ixa .. | .sla .. => true
  | _ => false
/-- what only looks into memory -/
def XOp.reads : XOp → Bool
  | .ld1 _ | .ldn .. | .b2s _ | .lkp .. | .lnm _ | .slc .. => true
  | _ => false

/-- an operation of a region -/
def compS (P : Program) (nt : Nat) (ops : Array Oper) (o : Oper) (chk : List XK) : XS :=
  match o.dst with
  | some d => if d < nt then
      match o.guard with
      | none => ⟨some d, none, compOp P o.op, chk⟩
      | some (j, w) => match (ops[j]?).bind (·.dst) with
        | some s => ⟨some d, some ⟨s, w⟩, compOp P o.op, chk⟩
        | none => ⟨none, none, .bad, []⟩
    else ⟨none, none, .bad, []⟩
  | none =>
      match o.guard with
      | none => ⟨none, none, compOp P o.op, chk⟩
      | some (j, w) => match (ops[j]?).bind (·.dst) with
        | some s => ⟨none, some ⟨s, w⟩, compOp P o.op, chk⟩
        | none => ⟨none, none, .bad, []⟩
def kOf (x : XS) : XK := ⟨x.g, x.d.getD 0, x.op⟩
def compSi (P : Program) (nt : Nat) (ops : Array Oper) (i : Nat) (chk : List XK) : XS :=
  match ops[i]? with
  | some o => compS P nt ops o chk
  | none => ⟨none, none, .bad, []⟩
def waitsFor (ops : Array Oper) (j i : Nat) : Bool := match ops[j]? with
  | some o => o.after.any fun e => Region.binds .any e && e.on == i
  | none => false
/-- what only makes a new block -/
def XOp.news : XOp → Bool
  | .row .. | .box .. | .bsl .. | .mkm => true
  | _ => false
/-! an order for a region that draws its own; sets of numbers are masks -/
def bit (m i : Nat) : Bool := Nat.beq (Nat.land (Nat.shiftRight m i) 1) 1
def maskOf (l : List Nat) : Nat := lrec 0 (fun a m => Nat.lor (Nat.shiftLeft 1 a) m) l
/-- of an operation: its place, whom it waits for, which slots it looks at, which one it writes, and whether it may be taken ahead -/
structure PI where
  i : Nat
  w : Nat
  l : Nat
  d : Nat
  tk : Bool
  rd : Bool
def afters (o : Oper) : List Nat := (o.after.toList.filter fun e => Region.binds .any e).map (·.on)
def dstMask (o : Oper) : Nat := match o.dst with
  | some d => Nat.shiftLeft 1 d
  | none => 0
def tkOf (x : XS) : Bool := x.op.pure || (x.op.reads || x.op.news) && x.d.isSome
def mkPI {β : Type} (P : Program) (nt : Nat) (ops : Array Oper) (i : Nat) (o : Oper) (f : PI → β) : β :=
  seqN (maskOf (afters o)) fun w => seqN (maskOf (o.looksAt ops)) fun l => seqN (dstMask o) fun d =>
    seqB (tkOf (compS P nt ops o [])) fun tk => seqB (compS P nt ops o []).op.reads fun rd => f ⟨i, w, l, d, tk, rd⟩
/-- of all operations, from a place on -/
def infos (P : Program) (nt : Nat) (ops : Array Oper) : Nat → List Oper → List PI
  | _, [] => []
  | i, o :: l => mkPI P nt ops i o fun p => seqN (i + 1) fun j => seqL (infos P nt ops j l) fun r => p :: r
/-- no two write one slot -/
def oneDst : Nat → List PI → Bool
  | _, [] => true
  | m, p :: l => cnd (Nat.beq (Nat.land m p.d) 0) (seqN (Nat.lor m p.d) fun m => oneDst m l) false
def readyP (m : Nat) (p : PI) : Bool := cnd (bit m p.i) false (Nat.beq (Nat.land p.w m) p.w)
def readyM (m : Nat) (I : List PI) : List PI := lrec [] (fun p ih => cnd (readyP m p) (p :: ih) ih) I
/-- is it nothing to another one that it is taken first? -/
def apartP (m : Nat) (p k : PI) : Bool := cnd (bit k.w p.i) true (cnd (Nat.beq (Nat.land k.l p.d) 0) (cnd (Nat.beq k.i p.i) true (cnd (bit m k.i) true (Nat.beq (Nat.land k.d p.l) 0))) false)
def allP (f : PI → Bool) (I : List PI) : Bool := lrec true (fun p ih => cnd (f p) ih false) I
def takesP (m : Nat) (I : List PI) (p : PI) : Bool := cnd p.tk (allP (apartP m p) I) false
def findP (f : PI → Bool) (I : List PI) : Option PI := lrec none (fun p ih => cnd (f p) (some p) ih) I
/-- whom those wait for that are in a set, too -/
def clo1 (I : List PI) (m : Nat) : Nat := lrec m (fun q ih => cnd (bit m q.i) (Nat.lor q.w ih) ih) I
def reachM (I : List PI) : Nat → Nat → Nat := nrec (fun m => m) (fun ih m => seqN (clo1 I m) ih)
def reachH (I : List PI) (held : List Nat) (w : Nat) : Nat := match held with | [] => 0 | _ :: _ => reachM I 24 w
/-- what may be taken first is; else there is one alone that comes -/
def plan (P : Program) (nt : Nat) (ops : Array Oper) (I : List PI) : Nat → Nat → List Nat → Option (List XS)
  | 0, m, _ => match readyM m I with
    | [] => some []
    | _ => none
  | n + 1, m, held =>
    match readyM m I with
    | [] => some []
    | r => match findP (takesP m I) r with
      | some p =>
        seqN (Nat.lor m (Nat.shiftLeft 1 p.i)) fun m => (plan P nt ops I n m (cnd p.rd (p.i :: held) held)).map (compSi P nt ops p.i [] :: ·)
      | none => match r with
        | [p] =>
          seqN (reachH I held p.w) fun t => seqL (held.filter fun i => !bit t i) fun held =>
          seqN (Nat.lor m (Nat.shiftLeft 1 p.i)) fun m => (plan P nt ops I n m held).map (compSi P nt ops p.i (held.map fun i => kOf (compSi P nt ops i [])) :: ·)
        | _ => none
def planOf (P : Program) (nt : Nat) (ops : Array Oper) (I : List PI) : XC :=
  match oneDst 0 I, plan P nt ops I ops.size 0 [] with
  | true, some l => .reg l
  | _, _ => .bad
def compReg (P : Program) (nt : Nat) (ops : Array Oper) (draw : Bool) : XC :=
  match draw with
  | false => .reg (ops.toList.map fun o => compS P nt ops o [])
  | true => seqL (infos P nt ops 0 ops.toList) fun I => planOf P nt ops I
def comp (P : Program) (nt : Nat) : Code → XC
  | .skip => .skip
  | .label _ => .skip
  | .region _ ops draw => compReg P nt ops draw
  | .seq a b => .seq (comp P nt a) (comp P nt b)
  | .cond c a b => match XA.of c with
    | some c => .cond c (comp P nt a) (comp P nt b)
    | none => .bad
  | .block id a => .blk id (comp P nt a)
  | .loop a => .loop (comp P nt a)
  | .exit id => .exit id
  | .ret => .ret
  | _ => .bad
def compR (P : Program) : List ResultVar → Option (List XR)
  | [] => some []
  | .tmp t :: l => (compR P l).map (.t t :: ·)
  | .cell a t :: l => match cAgg P t, cSize P t, compR P l with
    | some true, some n, some r => some (.cn n a :: r)
    | some false, some _, some r => some (.c1 a :: r)
    | _, _, _ => none
def compF (P : Program) (fn : Func) : Option XF :=
  match fn.body, compR P fn.results.toList with
  | some c, some r => some ⟨fn.ntmps, comp P fn.ntmps c, r⟩
  | _, _ => none
end
end Go.Proofs.YtdimeaooekhkhaaGreat.AX
