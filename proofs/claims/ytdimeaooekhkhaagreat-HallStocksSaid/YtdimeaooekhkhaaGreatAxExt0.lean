/- The runner: functions that are not run. No function of the program is walked here. -/
import Derived.Test.YtdimeaooekhkhaaGreatAxComp
set_option linter.unusedVariables false
namespace Go.Proofs.YtdimeaooekhkhaaGreat.AX
noncomputable section
/-- a list of strings, rising; alike ones are none -/
def insS (x : List Nat) : List (List Nat) → List (List Nat)
  | [] => [x]
  | y :: l => cnd (llt x y) (x :: y :: l) (y :: insS x l)
def sortS (l : List (List Nat)) : List (List Nat) := lrec [] (fun x ih => insS x ih) l
def headLt (x : List Nat) (l : List (List Nat)) : Bool := match l with | [] => true | y :: _ => llt x y
def rising : List (List Nat) → Bool
  | [] => true
  | x :: l => cnd (headLt x l) (rising l) false
def strKeysA (es : List Ent) : Option (List (List Nat)) := lrec (some []) (fun e ih => match e.key with | .str l => cnd (Nat.blt (llen l) 1000000) (oif ih none fun r => some (l :: r)) none | _ => none) es
def bornLt (n : Nat) (l : List Ent) : Bool := match l with | [] => true | f :: _ => Nat.blt n f.born
/-- stamps rise, and stay below the clock -/
def stampsA (clock : Nat) : List Ent → Bool
  | [] => true
  | e :: l => cnd (Nat.blt e.born clock) (cnd (bornLt e.born l) (stampsA clock l) false) false
def xMapsClone (_ : CallT) (args : List AV) (S : St) : Out := match args with
  | [.iface t (.mapv r)] => oif (mapOf S r) (err "clone") fun p => rok (.iface t (.mapv S.next)) (S.new (.map p.1 p.2))
  | _ => err "clone"
def xAdd64 (_ : CallT) (args : List AV) (S : St) : Out := match args with
  | [.int .u64 (.ofNat a), .int .u64 (.ofNat b), .int .u64 (.ofNat c)] => cnd (Nat.blt c 2) (seqN ((a + b + c) % 18446744073709551616) fun lo => seqN ((a + b + c) / 18446744073709551616) fun hi => rok (.tup [.int .u64 (.ofNat lo), .int .u64 (.ofNat hi)]) S) (err "carry")
  | _ => err "add64"
def xClone (_ : CallT) (args : List AV) (S : St) : Out := match args with
  | [.str l] => cnd (fits (llen l)) (rok (.str l) S) (err "clone long")
  | _ => err "clone"
def memN (g : Nat) (gs : List Nat) : Bool := lrec false (fun x ih => cnd (Nat.beq x g) true ih) gs
def strsA (l : List (List Nat)) : List AV := lrec [] (fun x ih => .str x :: ih) l
def sortedOf (S : St) (n : Nat) (l : List (List Nat)) : Out := match l with
  | [] => rok .nils S
  | x :: l => seqL (strsA (x :: l)) fun cs => seqN n fun n => rok (.slice S.next 0 n (.op 0)) (S.new (.row cs 0 (some 1)))
def sortedIn (S : St) (cs : List AV) : Out := match cs with
  | [.nilm] => rok .nils S
  | [.mapv r] => oif (mapOf S r) (err "sorted") fun p => oif (strKeysA p.1) (err "sorted keys") fun ks => cnd (stampsA p.2 p.1) (cnd (fits (llen ks)) (seqL (sortS ks) fun l => cnd (rising l) (sortedOf S (llen ks) l) (err "sorted twice")) (err "sorted long")) (err "sorted stamps")
  | _ => err "sorted"
/-- the keys of a map that lies in a box, rising -/
def xSorted (gs : List Nat) (_ : CallT) (args : List AV) (S : St) : Out := match args with
  | [.fn (.func g) [] [.ptr b 0]] => cnd (memN g gs) (oif (rowOf S b) (err "sorted") fun cs => sortedIn S cs) (err "sorted who")
  | _ => err "sorted"
def empt0 (S : St) (es : List Ent) : Out := match es with
  | [] => rok .nils S
  | _ => err "append of some"
def append0 (gn ge : List Nat) (g : Nat) (S : St) (cs : List AV) : Out := match cs with
  | [.nilm] => cnd (memN g gn) (rok .nils S) (err "append who")
  | [.mapv r] => cnd (memN g ge) (oif (mapOf S r) (err "append map") fun p => empt0 S p.1) (err "append who")
  | _ => err "append what"
/-- what is ranged over gives nothing -/
def xAppend0 (gn ge : List Nat) (_ : CallT) (args : List AV) (S : St) : Out := match args with
  | [.nils, .fn (.func g) [] [.ptr b 0]] => oif (rowOf S b) (err "append box") fun cs => append0 gn ge g S cs
  | _ => err "append0"
/-! sums and products of numbers that may not be known -/
def iaddL (a b : IE) : IE := match a, b with | .lit x, .lit y => seqI (Int.add x y) fun n => .lit n | a, b => iadd a b
def ieI (v : AV) : Option IE := match v with | .int .i64 n => some (.lit n) | .sym .i64 e => some e | _ => none
def in64 (n : Int) : Bool := cnd (ilt n (-9223372036854775808)) false (ilt n 9223372036854775808)
def ieF (fs : List Fact) (v : AV) : R IE := match v with
  | .int .i64 n => cnd (in64 n) (.ok (.lit n)) (.err "no number of 64 bits")
  | .sym .i64 e => cnd (askFit fs .i64 e) (.ok e) (.err (askFitS .i64 e))
  | _ => .err "no number"
def sumF (fs : List Fact) (l : List AV) : IE → R IE := lrec (fun e => .ok e) (fun v ih e => R.bind (ieF fs v) fun x => ih (iaddL e x)) l
def isSl (x : AV) : Bool := match x with | .slice _ _ _ _ => true | .nils => true | .none0 => true | _ => false
def within (fs : List Fact) (S : St) (e : IE) : Out := match e with
  | .lit n => cnd (ilt n (-1152921504606846976)) (err "sum below") (cnd (ilt 1152921504606846976 n) (err "sum above") (okI S .i64 n))
  | e => oif (askLt fs e (.lit (-1152921504606846976))) (err (askLtS e (.lit (-1152921504606846976)))) fun r => cnd r (err "sum below")
      (oif (askLt fs (.lit 1152921504606846976) e) (err (askLtS (.lit 1152921504606846976) e)) fun r => cnd r (err "sum above") (rok (.sym .i64 e) S))
/-- money's sum, where it lies within its ends -/
def xAccAdd (fs : List Fact) (_ : CallT) (args : List AV) (S : St) : Out := match args with
  | [_, x] => cnd (isSl x) (oif (srcA S 1 x) (err "sum of what") fun p => cnd (fits p.1) (R.bind (sumF fs p.2 (.lit 0)) fun e => within fs S e) (err "sum long")) (err "sum of what")
  | _ => err "sum"
/-! postings: cells in rows of a length -/
def rowsOf (n : Nat) : Nat → List AV → Option (List (List AV)) := nrec (fun _ => some []) (fun ih l => oif (take? n l) none fun r => oif (ih (drop' n l)) none fun q => some (r :: q))
/-- a posting: account, asset, part, by how much -/
structure PostA where
  acc : List Nat
  ast : List Nat
  sub : Int
  by_ : IE
def postOf (l : List AV) : Option PostA := match l with
  | [.str a, .str b, .int .i64 k, v] => oif (ieI v) none fun e => some ⟨a, b, k, e⟩
  | _ => none
def postsOf (l : List (List AV)) : Option (List PostA) := lrec (some []) (fun r ih => oif (postOf r) none fun p => oif ih none fun q => some (p :: q)) l
/-- sums by asset, in the order in which they are met -/
def addAst (a : List Nat) (e : IE) : List (List Nat × IE) → List (List Nat × IE)
  | [] => [(a, e)]
  | (b, f) :: l => cnd (leq a b) ((b, iaddL f e) :: l) ((b, f) :: addAst a e l)
def sumsAst (l : List PostA) : List (List Nat × IE) → List (List Nat × IE) := lrec (fun acc => acc) (fun p ih acc => ih (addAst p.ast p.by_ acc)) l
def isZ (fs : List Fact) (v : AV) : R Bool := match v with
  | .int .i64 n => .ok (ibeq n 0)
  | .sym .i64 e => oif (askEq fs e (.lit 0)) (.err (askEqS e (.lit 0))) .ok
  | _ => .err "sum"
def evenA (fs : List Fact) (S : St) : List (List Nat × IE) → Out := lrec (okB S true) (fun p ih => R.bind (within fs S p.2) fun q => R.bind (isZ fs q.1) fun b => cnd b ih (R.bind ih fun _ => okB S false))
def postCells (S : St) (x : AV) : Option (List PostA) := oif (srcA S 4 x) none fun p => cnd (fits p.1) (oif (rowsOf 4 p.1 p.2) none postsOf) none
def xEven (fs : List Fact) (_ : CallT) (args : List AV) (S : St) : Out := match args with
  | [x] => oif (postCells S x) (err "even") fun l => evenA fs S (sumsAst l [])
  | _ => err "even"
/-- which of two parts stands ahead -/
def partLt (p q : PostA) : Bool := cnd (leq p.acc q.acc) (cnd (leq p.ast q.ast) (ilt p.sub q.sub) (llt p.ast q.ast)) (llt p.acc q.acc)
def partEq (p q : PostA) : Bool := cnd (leq p.acc q.acc) (cnd (leq p.ast q.ast) (ibeq p.sub q.sub) false) false
def addNet (p : PostA) : List PostA → List PostA
  | [] => [p]
  | q :: l => cnd (partEq p q) (⟨q.acc, q.ast, q.sub, iaddL q.by_ p.by_⟩ :: l) (q :: addNet p l)
def sumsNet (l : List PostA) : List PostA → List PostA := lrec (fun acc => acc) (fun p ih acc => ih (addNet p acc)) l
def insNet (p : PostA) : List PostA → List PostA
  | [] => [p]
  | q :: l => cnd (partLt p q) (p :: q :: l) (q :: insNet p l)
def sortNet (l : List PostA) : List PostA := lrec [] (fun p ih => insNet p ih) l
def netCells (fs : List Fact) (S : St) (l : List PostA) : R (List AV) := lrec (.ok []) (fun p ih => R.bind (within fs S p.by_) fun q => R.bind ih fun r => .ok (.str p.acc :: .str p.ast :: .int .i64 p.sub :: q.1 :: .bool false :: r)) l
def netsOut (S : St) (n : Nat) (l : List AV) : Out := match l with
  | [] => rok .nils S
  | x :: l => seqL (x :: l) fun cs => seqN n fun n => rok (.slice S.next 0 n (.op 0)) (S.new (.row cs 0 (some 5)))
def xNets (fs : List Fact) (_ : CallT) (args : List AV) (S : St) : Out := match args with
  | [x] => oif (postCells S x) (err "nets") fun l => seqL (sortNet (sumsNet l [])) fun l => R.bind (netCells fs S l) fun cs => netsOut S (llen l) cs
  | _ => err "nets"
/-! a product divided by a number -/
def askL (fs : List Fact) (a b : IE) : R Bool := match a, b with
  | .lit x, .lit y => .ok (ilt x y)
  | a, b => oif (askLt fs a b) (.err (askLtS a b)) .ok
def imulL (a b : IE) : IE := match a, b with | .lit x, .lit y => seqI (Int.mul x y) fun n => .lit n | a, b => .mul a b
def iquoL (a b : IE) : IE := match a, b with | .lit x, .lit y => seqI (Int.tdiv x y) fun n => .lit n | a, b => .quo a b
def ofIE (e : IE) : AV := match e with | .lit n => .int .i64 n | e => .sym .i64 e
def seqE {β : Type} (e : IE) (f : IE → β) : β := match e with
  | .var i => f (.var i) | .lit n => f (.lit n) | .add a b => f (.add a b) | .sub a b => f (.sub a b) | .mul a b => f (.mul a b) | .quo a b => f (.quo a b) | .rem a b => f (.rem a b)
def retE (S : St) (v : AV) (n : Int) : Out := rok (.tup [v, .int .i64 n]) S
def mulDivQ (fs : List Fact) (S : St) (q : IE) : Out := R.bind (askL fs (.lit 1152921504606846976) q) fun r => cnd r (retE S (.int .i64 0) 12) (retE S (ofIE q) 0)
def mulDivE (fs : List Fact) (S : St) (a b c : IE) : Out := R.bind (askL fs a (.lit 0)) fun r => cnd r (retE S (.int .i64 0) 1)
  (R.bind (askL fs b (.lit 0)) fun r => cnd r (retE S (.int .i64 0) 1)
  (R.bind (askL fs c (.lit 1)) fun r => cnd r (retE S (.int .i64 0) 1) (seqE (imulL a b) fun p => seqE (iquoL p c) fun q => mulDivQ fs S q)))
def xMulDiv (fs : List Fact) (_ : CallT) (args : List AV) (S : St) : Out := match args with
  | [x, y, z] => oif (ieI x) (err "muldiv") fun a => oif (ieI y) (err "muldiv") fun b => oif (ieI z) (err "muldiv") fun c => mulDivE fs S a b c
  | _ => err "muldiv"
/-- money's product, where it lies within its ends -/
def xAccMul (fs : List Fact) (_ : CallT) (args : List AV) (S : St) : Out := match args with
  | [_, x, y] => R.bind (ieF fs x) fun a => R.bind (ieF fs y) fun b => seqE (imulL a b) fun p => within fs S p
  | _ => err "product"
/-! keys of two strings, in order -/
def key2 (k : AV) : Option (List Nat × List Nat) := match k with
  | .agg [.str a, .str b] => some (a, b)
  | _ => none
def keys2 (es : List Ent) : Option (List (List Nat × List Nat)) := lrec (some []) (fun e ih => oif (key2 e.key) none fun k => oif ih none fun r => some (k :: r)) es
def lt2 (p q : List Nat × List Nat) : Bool := cnd (leq p.1 q.1) (llt p.2 q.2) (llt p.1 q.1)
def ins2 (p : List Nat × List Nat) : List (List Nat × List Nat) → List (List Nat × List Nat)
  | [] => [p]
  | q :: l => cnd (lt2 p q) (p :: q :: l) (q :: ins2 p l)
def sort2 (l : List (List Nat × List Nat)) : List (List Nat × List Nat) := lrec [] (fun p ih => ins2 p ih) l
def rising2 : List (List Nat × List Nat) → Bool
  | [] => true
  | p :: l => cnd (match l with | [] => true | q :: _ => lt2 p q) (rising2 l) false
def cells2 (l : List (List Nat × List Nat)) : List AV := lrec [] (fun p ih => .str p.1 :: .str p.2 :: ih) l
def rows2 (S : St) (n : Nat) (l : List (List Nat × List Nat)) : Out := match l with
  | [] => rok .nils S
  | x :: l => seqL (cells2 (x :: l)) fun cs => seqN n fun n => rok (.slice S.next 0 n (.op 0)) (S.new (.row cs 0 (some 2)))
def sorted2 (S : St) (l : List (List Nat × List Nat)) : Out := cnd (fits (llen l)) (seqL (sort2 l) fun r => cnd (rising2 r) (rows2 S (llen l) r) (err "sorted twice")) (err "sorted long")
def strsOf : List AV → Option (List (List Nat)) := lrec (some []) (fun v ih => match v with | .str s => oif ih none fun r => some (s :: r) | _ => none)
def memS (s : List Nat) : List (List Nat) → Bool := lrec false (fun x ih => cnd (leq x s) true ih)
def filt2 (l : List (List Nat)) (ks : List (List Nat × List Nat)) : List (List Nat × List Nat) := match l with
  | [] => ks
  | l => lrec [] (fun k ih => cnd (memS k.2 l) (k :: ih) ih) ks
/-- the positions that are not nought, of some assets, or of all -/
def xKeys (_ : CallT) (args : List AV) (S : St) : Out := match args with
  | [.ptr b o, x] => cnd (isSl x) (oif (srcA S 1 x) (err "keys") fun p => oif (strsOf p.2) (err "keys") fun l => oif (rowOf S b) (err "keys") fun cs => oif (nth? o cs) (err "keys") fun m => match m with
      | .nilm => rok .nils S
      | .mapv r => oif (mapOf S r) (err "keys") fun q => oif (keys2 q.1) (err "keys") fun ks => cnd (stampsA q.2 q.1) (sorted2 S (filt2 l ks)) (err "keys stamps")
      | _ => err "keys") (err "keys")
  | _ => err "keys"
/-- the keys of a map that lies in a box, in order -/
def xSorted2 (gs cs : List Nat) (_ : CallT) (args : List AV) (S : St) : Out := match args with
  | [.fn (.func g) [] [.ptr b 0], .fn (.func c) [] []] => cnd (memN g gs) (cnd (memN c cs) (oif (rowOf S b) (err "sorted") fun cells => match cells with
      | [.nilm] => rok .nils S
      | [.mapv r] => oif (mapOf S r) (err "sorted") fun q => oif (keys2 q.1) (err "sorted") fun ks => cnd (stampsA q.2 q.1) (sorted2 S ks) (err "sorted stamps")
      | _ => err "sorted") (err "sorted who")) (err "sorted who")
  | _ => err "sorted"
end
end Go.Proofs.YtdimeaooekhkhaaGreat.AX
