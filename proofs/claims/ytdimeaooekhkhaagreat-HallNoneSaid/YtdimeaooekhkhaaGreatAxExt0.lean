/- The runner: functions that are not run. No function of the program is walked here. -/
import Derived.Test.YtdimeaooekhkhaaGreatAxComp
set_option linter.unusedVariables false
namespace Go.Proofs.YtdimeaooekhkhaaGreat.AX
noncomputable section
/-- a list of strings, rising; alike ones are none -/
def insS (x : List Nat) : List (List Nat) → List (List Nat)
  | [] => [x]
  | y :: l => cnd (llt x y) (x :: y :: l) (y :: insS x l)
def sortS (l : List (List Nat)) : List (List Nat) := lrec [] (fun x ih => insS x ih) l
def headLt (x : List Nat) (l : List (List Nat)) : Bool := match l with | [] => true | y :: _ => llt x y
def rising : List (List Nat) → Bool
  | [] => true
  | x :: l => cnd (headLt x l) (rising l) false
def strKeysA (es : List Ent) : Option (List (List Nat)) := lrec (some []) (fun e ih => match e.key with | .str l => cnd (Nat.blt (llen l) 1000000) (oif ih none fun r => some (l :: r)) none | _ => none) es
def bornLt (n : Nat) (l : List Ent) : Bool := match l with | [] => true | f :: _ => Nat.blt n f.born
/-- stamps rise, and stay below the clock -/
def stampsA (clock : Nat) : List Ent → Bool
  | [] => true
  | e :: l => cnd (Nat.blt e.born clock) (cnd (bornLt e.born l) (stampsA clock l) false) false
def xMapsClone (_ : CallT) (args : List AV) (S : St) : Out := match args with
  | [.iface t (.mapv r)] => oif (mapOf S r) (err "clone") fun p => rok (.iface t (.mapv S.next)) (S.new (.map p.1 p.2))
  | _ => err "clone"
def xAdd64 (_ : CallT) (args : List AV) (S : St) : Out := match args with
  | [.int .u64 (.ofNat a), .int .u64 (.ofNat b), .int .u64 (.ofNat c)] => cnd (Nat.blt c 2) (seqN ((a + b + c) % 18446744073709551616) fun lo => seqN ((a + b + c) / 18446744073709551616) fun hi => rok (.tup [.int .u64 (.ofNat lo), .int .u64 (.ofNat hi)]) S) (err "carry")
  | _ => err "add64"
def xClone (_ : CallT) (args : List AV) (S : St) : Out := match args with
  | [.str l] => cnd (fits (llen l)) (rok (.str l) S) (err "clone long")
  | _ => err "clone"
def memN (g : Nat) (gs : List Nat) : Bool := lrec false (fun x ih => cnd (Nat.beq x g) true ih) gs
def strsA (l : List (List Nat)) : List AV := lrec [] (fun x ih => .str x :: ih) l
def sortedOf (S : St) (n : Nat) (l : List (List Nat)) : Out := match l with
  | [] => rok .nils S
  | x :: l => seqL (strsA (x :: l)) fun cs => seqN n fun n => rok (.slice S.next 0 n (.op 0)) (S.new (.row cs 0 (some 1)))
def sortedIn (S : St) (cs : List AV) : Out := match cs with
  | [.nilm] => rok .nils S
  | [.mapv r] => oif (mapOf S r) (err "sorted") fun p => oif (strKeysA p.1) (err "sorted keys") fun ks => cnd (stampsA p.2 p.1) (cnd (fits (llen ks)) (seqL (sortS ks) fun l => cnd (rising l) (sortedOf S (llen ks) l) (err "sorted twice")) (err "sorted long")) (err "sorted stamps")
  | _ => err "sorted"
/-- the keys of a map that lies in a box, rising -/
def xSorted (gs : List Nat) (_ : CallT) (args : List AV) (S : St) : Out := match args with
  | [.fn (.func g) [] [.ptr b 0]] => cnd (memN g gs) (oif (rowOf S b) (err "sorted") fun cs => sortedIn S cs) (err "sorted who")
  | _ => err "sorted"
def empt0 (S : St) (es : List Ent) : Out := match es with
  | [] => rok .nils S
  | _ => err "append of some"
def append0 (gn ge : List Nat) (g : Nat) (S : St) (cs : List AV) : Out := match cs with
  | [.nilm] => cnd (memN g gn) (rok .nils S) (err "append who")
  | [.mapv r] => cnd (memN g ge) (oif (mapOf S r) (err "append map") fun p => empt0 S p.1) (err "append who")
  | _ => err "append what"
/-- what is ranged over gives nothing -/
def xAppend0 (gn ge : List Nat) (_ : CallT) (args : List AV) (S : St) : Out := match args with
  | [.nils, .fn (.func g) [] [.ptr b 0]] => oif (rowOf S b) (err "append box") fun cs => append0 gn ge g S cs
  | _ => err "append0"
end
end Go.Proofs.YtdimeaooekhkhaaGreat.AX
