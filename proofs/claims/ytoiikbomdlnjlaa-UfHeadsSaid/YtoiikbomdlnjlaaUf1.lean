/- Proved: contracts of package uf's functions over the model: what the object holds, and what is, Head, Len, Same tell. -/
import Derived.Test.YtoiikbomdlnjlaaProg
import Derived.Below
import Derived.Deep.Draws
import Derived.Deep.AppendLies
import Derived.Maps.AppendAt
import Derived.OwnWalk
import Derived.Laws.MakeOwn
import Derived.Laws.OwnMore
import Derived.Deep.OwnRows
import Derived.Tactics
import Derived.WalkKit
import Derived.KernelRfl
import Derived.RowKit3
import Derived.Deep.LoopGhost
import Derived.Deep.QuietTactic
import Derived.BigQuiet
import Derived.WideLaws
import Derived.Deep.DeepCutAuto
import Derived.Deep.RegionHeld3
import Derived.Lib.Hide
set_option linter.unusedVariables false
set_option linter.unusedSimpArgs false
namespace Go.Proofs.Ytoiikbomdlnjlaa.Uf
open Go.RowKit

/-- the object at block b holds the numbers xs, in memory from block B on; v: the slice in it -/
structure UfAt (w : World) (B b : Nat) (v : Value) (xs : List Int) : Prop where
  ge : B ≤ b
  blk : w.heap[b]? = some (.cells #[v] 56 (0, 0))
  own : w.ownsRow B 3 1 v xs.length (xs.map (Value.int .i64))
  ne : v.ownBlock ≠ some b
/-- what the numbers are: of each one that is not above it -/
structure Wf (xs : List Int) : Prop where
  len : xs.length ≤ 1000
  lo : ∀ j, j < xs.length → 1 ≤ xs.getD j 0
  hi : ∀ j, j < xs.length → xs.getD j 0 ≤ (j : Int) + 1

theorem UfAt.cell {w : World} {B b : Nat} {v : Value} {xs : List Int} (h : UfAt w B b v xs) : w.cell? ⟨b, 0, none⟩ = some v := by
  simp [World.cell?, h.blk]
theorem UfAt.frozen {w : World} {B b : Nat} {v : Value} {xs : List Int} (h : UfAt w B b v xs) : w.frozen? ⟨b, 0, none⟩ = false := by
  simp [World.frozen?, h.blk]
theorem UfAt.lt {w : World} {B b : Nat} {v : Value} {xs : List Int} (h : UfAt w B b v xs) : b < w.heap.size :=
  (Array.getElem?_eq_some_iff.1 h.blk).1
/-- the slice's shape, and its cells -/
theorem UfAt.shape {w : World} {B b : Nat} {v : Value} {xs : List Int} (h : UfAt w B b v xs) :
    (v = .slice none 0 0 ∧ xs = []) ∨ ∃ g cap, v = .slice (some ⟨g, 0, none⟩) xs.length cap ∧ g ≠ b ∧ B ≤ g ∧ xs.length ≤ cap ∧ cap ≤ maxLen ∧
      (∀ j, j < xs.length → w.cell? ⟨g, j, none⟩ = some (.int .i64 (xs.getD j 0))) ∧ (∀ j, w.frozen? ⟨g, j, none⟩ = false) := by
  obtain ⟨h1, h2⟩ := h.own
  rcases h2 with ⟨rfl, hn⟩ | ⟨g, cap, cur, rfl, hb, hg, hle, hm, hs, ht⟩
  · exact .inl ⟨rfl, List.eq_nil_of_length_eq_zero hn⟩
  · refine .inr ⟨g, cap, rfl, fun e => h.ne (by simp [Value.ownBlock, e]), hb, hle, hm, fun j hj => ?_, fun j => ?_⟩
    · have e : cur.toList[j]? = (xs.map (Value.int .i64))[j]? := by
        rw [← ht, List.getElem?_take, if_pos (by omega)]
      simp only [World.cell?, hg, Option.isSome_none, Bool.false_eq_true, if_false]
      rw [Array.getElem?_toList] at e
      rw [e, List.getElem?_map, List.getD_eq_getElem?_getD, List.getElem?_eq_getElem hj]; rfl
    · simp [World.frozen?, hg]

/-- a call that only reads, and what it tells -/
def Ret (v : Value) (w : World) (e : Ending) (w' : World) : Prop := e = .returned v ∧ w = w'
/-- a call that may make memory, and what it tells -/
def RetB (v : Value) (w : World) (e : Ending) (w' : World) : Prop := e = .returned v ∧ Below w.heap.size w w'

theorem UfAt.is_slice {w : World} {B b : Nat} {v : Value} {xs : List Int} (h : UfAt w B b v xs) : ∃ a cap, v = .slice a xs.length cap := by
  rcases h.shape with ⟨rfl, rfl⟩ | ⟨g, cap, rfl, _⟩
  · exact ⟨none, 0, rfl⟩
  · exact ⟨_, _, rfl⟩
set_option maxHeartbeats 400000 in
theorem is_yes {w : World} {B b : Nat} {v : Value} {xs : List Int} (h : UfAt w B b v xs) (hw : xs.length ≤ 1000) (i : Int) (h1 : 1 ≤ i) (h2 : i ≤ xs.length) :
    Calls Try.prog 27 #[.pointer (some ⟨b, 0, none⟩), .int .i64 i] w (Ret (.bool true) w) := by
  have hc := h.cell
  obtain ⟨a, cap, rfl⟩ := h.is_slice
  clear h
  go_enter Try.func27, Try.ntmps27
  go_wp2
  go_ret
  exact ⟨rfl, rfl⟩
set_option maxHeartbeats 400000 in
theorem is_no {w : World} {B b : Nat} {v : Value} {xs : List Int} (h : UfAt w B b v xs) (hw : xs.length ≤ 1000) (i : Int) (h1 : i < 1 ∨ xs.length < i) :
    Calls Try.prog 27 #[.pointer (some ⟨b, 0, none⟩), .int .i64 i] w (Ret (.bool false) w) := by
  have hc := h.cell
  obtain ⟨a, cap, rfl⟩ := h.is_slice
  clear h
  by_cases h2 : 1 ≤ i
  · have h3 : decide (i ≤ (xs.length : Int)) = false := decide_eq_false (by omega)
    clear h1
    go_enter Try.func27, Try.ntmps27
    go_wp2
    go_ret
    exact ⟨rfl, rfl⟩
  · have h3 : i < 1 := by omega
    clear h1 h2
    go_enter Try.func27, Try.ntmps27
    go_wp2
    go_ret
    exact ⟨rfl, rfl⟩
theorem is_nil (w : World) (i : Int) :
    Calls Try.prog 27 #[.pointer none, .int .i64 i] w (Ret (.bool false) w) := by
  go_enter Try.func27, Try.ntmps27
  go_wp2
  go_ret
  exact ⟨rfl, rfl⟩

/-- the head of a number -/
def headN (xs : List Int) : Nat → Int → Int
  | 0, i => i
  | k + 1, i => if xs.getD (i - 1).toNat 0 = i then i else headN xs k (xs.getD (i - 1).toNat 0)
def hd (xs : List Int) (i : Int) : Int := headN xs i.toNat i
theorem Wf.at {xs : List Int} (h : Wf xs) {i : Int} (h1 : 1 ≤ i) (h2 : i ≤ xs.length) : 1 ≤ xs.getD (i - 1).toNat 0 ∧ xs.getD (i - 1).toNat 0 ≤ i := by
  have a := h.lo (i - 1).toNat (by omega)
  have b := h.hi (i - 1).toNat (by omega)
  omega
theorem headN_more {xs : List Int} (h : Wf xs) : ∀ (k : Nat) (i : Int), 1 ≤ i → i ≤ xs.length → i.toNat ≤ k → headN xs k i = headN xs i.toNat i := by
  intro k
  induction k using Nat.strongRecOn with
  | ind k ih =>
    intro i h1 h2 hk
    obtain ⟨k, rfl⟩ : ∃ m, k = m + 1 := ⟨k - 1, by omega⟩
    obtain ⟨m, hm⟩ : ∃ m, i.toNat = m + 1 := ⟨i.toNat - 1, by omega⟩
    have a := h.at h1 h2
    rw [hm]
    simp only [headN]
    by_cases e : xs.getD (i - 1).toNat 0 = i
    · rw [if_pos e, if_pos e]
    · rw [if_neg e, if_neg e]
      rw [ih k (by omega) _ a.1 (by omega) (by omega)]
      by_cases hkm : m = k
      · subst hkm; rw [ih m (by omega) _ a.1 (by omega) (by omega)]
      · rw [ih m (by omega) _ a.1 (by omega) (by omega)]
theorem hd_step {xs : List Int} (h : Wf xs) {i : Int} (h1 : 1 ≤ i) (h2 : i ≤ xs.length) (e : xs.getD (i - 1).toNat 0 ≠ i) : hd xs (xs.getD (i - 1).toNat 0) = hd xs i := by
  have a := h.at h1 h2
  unfold hd
  obtain ⟨m, hm⟩ : ∃ m, i.toNat = m + 1 := ⟨i.toNat - 1, by omega⟩
  rw [hm]; simp only [headN]
  rw [if_neg e, headN_more h m _ a.1 (by omega) (by omega)]
theorem hd_stop {xs : List Int} {i : Int} (h1 : 1 ≤ i) (e : xs.getD (i - 1).toNat 0 = i) : hd xs i = i := by
  unfold hd
  obtain ⟨m, hm⟩ : ∃ m, i.toNat = m + 1 := ⟨i.toNat - 1, by omega⟩
  rw [hm]; simp only [headN]; rw [if_pos e]
theorem hd_range {xs : List Int} (h : Wf xs) : ∀ (k : Nat) (i : Int), i.toNat ≤ k → 1 ≤ i → i ≤ xs.length → 1 ≤ hd xs i ∧ hd xs i ≤ i ∧ xs.getD (hd xs i - 1).toNat 0 = hd xs i := by
  intro k
  induction k with
  | zero => intro i h0 h1 h2; omega
  | succ k ih =>
    intro i h0 h1 h2
    have a := h.at h1 h2
    by_cases e : xs.getD (i - 1).toNat 0 = i
    · rw [hd_stop h1 e]; exact ⟨h1, by omega, e⟩
    · rw [← hd_step h h1 h2 e]
      have := ih _ (by omega) a.1 (by omega)
      exact ⟨this.1, by omega, this.2.2⟩

set_option maxHeartbeats 800000 in
theorem head_yes {w : World} {B b : Nat} {v : Value} {xs : List Int} (h : UfAt w B b v xs) (hw : Wf xs) (i : Int) (h1 : 1 ≤ i) (h2 : i ≤ xs.length) :
    Calls Try.prog 22 #[.pointer (some ⟨b, 0, none⟩), .int .i64 i] w (Ret (.int .i64 (hd xs i)) w) := by
  have his := is_yes h hw.len i h1 h2
  have hb := h.cell
  have hl := hw.len
  rcases h.shape with ⟨rfl, rfl⟩ | ⟨g, cap, rfl, -, -, -, -, hc, -⟩
  · simp at h2; omega
  · clear h
    have HC := Lib.hid hc; clear hc
    have HW := Lib.hid hw; clear hw
    go_enter Try.func22, Try.ntmps22
    go_wp2_with (go_at_call 27; refine his.mono ?_; rintro e w' ⟨rfl, rfl⟩)
    clear his
    go_loop [1] (fun t => ∃ j : Int, 1 ≤ j ∧ j ≤ xs.length ∧ hd xs j = hd xs i ∧ t = .int .i64 j) (fun t => (intOf t).toNat)
    case atStart => exact ⟨i, h1, h2, rfl, rfl⟩
    case round =>
      obtain ⟨j, j1, j2, hj, rfl⟩ := hrel
      obtain ⟨k, rfl⟩ : ∃ k : Nat, j = (k : Int) + 1 := ⟨(j - 1).toNat, by omega⟩
      have hcell := HC.out k (by omega)
      have ha := HW.out.at j1 j2
      have hs := hd_step HW.out j1 j2
      have hst := hd_stop (xs := xs) j1
      have ek : ((k : Int) + 1 - 1).toNat = k := by omega
      rw [ek] at ha hs hst
      clear ek
      generalize xs.getD k 0 = y at *
      obtain ⟨y1, y2⟩ := ha
      have hk : k < xs.length := by omega
      by_cases e : y = (k : Int) + 1
      · have E := Lib.hid (hst e)
        have HJ := Lib.hid hj
        have e2 : (y != (k : Int) + 1) = false := by simp [e]
        clear hs hst e hj
        go_wp2
        go_ret
        rw [← HJ.out, E.out]
        exact ⟨rfl, rfl⟩
      · have E := Lib.hid (hs e)
        have HJ := Lib.hid hj
        have e2 : (y != (k : Int) + 1) = true := by simp [e]
        have y3 : y < (k : Int) + 1 := by omega
        clear hs hst e hj
        go_wp2
        go_round
        case rel => exact ⟨y, y1, by omega, E.out.trans HJ.out, rfl⟩
        case measure => simp [intOf]; omega
theorem head_no {w : World} {B b : Nat} {v : Value} {xs : List Int} (h : UfAt w B b v xs) (hw : xs.length ≤ 1000) (i : Int) (h1 : i < 1 ∨ xs.length < i) :
    Calls Try.prog 22 #[.pointer (some ⟨b, 0, none⟩), .int .i64 i] w (Ret (.int .i64 0) w) := by
  have his := is_no h hw i h1
  clear h
  go_enter Try.func22, Try.ntmps22
  go_wp2_with (go_at_call 27; refine his.mono ?_; rintro e w' ⟨rfl, rfl⟩)
  go_ret
  exact ⟨rfl, rfl⟩
theorem head_nil (w : World) (i : Int) :
    Calls Try.prog 22 #[.pointer none, .int .i64 i] w (Ret (.int .i64 0) w) := by
  have his := is_nil w i
  go_enter Try.func22, Try.ntmps22
  go_wp2_with (go_at_call 27; refine his.mono ?_; rintro e w' ⟨rfl, rfl⟩)
  go_ret
  exact ⟨rfl, rfl⟩
theorem len_any {w : World} {B b : Nat} {v : Value} {xs : List Int} (h : UfAt w B b v xs) (hw : xs.length ≤ 1000) :
    Calls Try.prog 25 #[.pointer (some ⟨b, 0, none⟩)] w (Ret (.int .i64 xs.length) w) := by
  have hc := h.cell
  obtain ⟨a, cap, rfl⟩ := h.is_slice
  clear h
  go_enter Try.func25, Try.ntmps25
  go_wp2
  go_ret
  exact ⟨rfl, rfl⟩
theorem len_nil (w : World) : Calls Try.prog 25 #[.pointer none] w (Ret (.int .i64 0) w) := by
  go_enter Try.func25, Try.ntmps25
  go_wp2
  go_ret
  exact ⟨rfl, rfl⟩

/-- a slice that reads as a list of numbers -/
def IntsAt (w : World) (v : Value) (xs : List Int) : Prop :=
  ∃ a cap, v = .slice a xs.length cap ∧ xs.length ≤ 9223372036854775807 ∧ (0 < xs.length → ∃ g o, a = some ⟨g, o, none⟩ ∧ ∀ j, j < xs.length → w.cell? ⟨g, o + j, none⟩ = some (.int .i64 (xs.getD j 0)))
theorem UfAt.drewN {w : World} {B b : Nat} {v : Value} {xs : List Int} (h : UfAt w B b v xs) (n : Nat) : UfAt (w.drewN n) B b v xs := ⟨h.1, h.2, h.3, h.4⟩
/-- in memory that was not turned the object holds what it held -/
theorem UfAt.below {w w' : World} {B b : Nat} {v : Value} {xs : List Int} (h : UfAt w B b v xs) (hb : Below w.heap.size w w') : UfAt w' B b v xs := by
  refine ⟨h.ge, (hb.block b h.lt).trans h.blk, ?_, h.ne⟩
  obtain ⟨h1, h2⟩ := h.own
  refine ⟨h1, ?_⟩
  rcases h2 with hn | ⟨g, cap, cur, rfl, hB, hg, rest⟩
  · exact .inl hn
  · exact .inr ⟨g, cap, cur, rfl, hB, (hb.block g (Array.getElem?_eq_some_iff.1 hg).1).trans hg, rest⟩
theorem is_q {w : World} {B b : Nat} {v : Value} {xs : List Int} (h : UfAt w B b v xs) (hw : Wf xs) (n : Nat) (i : Int) (h1 : 1 ≤ i) (h2 : i ≤ xs.length) :
    Calls Try.prog 27 #[.pointer (some ⟨b, 0, none⟩), .int .i64 i] (w.drewN n) fun e w'' => e = .returned (.bool true) ∧ ∃ m, w'' = w.drewN m :=
  (is_yes (h.drewN n) hw.len i h1 h2).mono fun _ _ ⟨he, hm⟩ => ⟨he, n, hm.symm⟩
theorem isno_q {w : World} {B b : Nat} {v : Value} {xs : List Int} (h : UfAt w B b v xs) (hw : Wf xs) (n : Nat) (i : Int) (h1 : i < 1 ∨ xs.length < i) :
    Calls Try.prog 27 #[.pointer (some ⟨b, 0, none⟩), .int .i64 i] (w.drewN n) fun e w'' => e = .returned (.bool false) ∧ ∃ m, w'' = w.drewN m :=
  (is_no (h.drewN n) hw.len i h1).mono fun _ _ ⟨he, hm⟩ => ⟨he, n, hm.symm⟩
theorem head_q {w : World} {B b : Nat} {v : Value} {xs : List Int} (h : UfAt w B b v xs) (hw : Wf xs) (n : Nat) (i : Int) (h1 : 1 ≤ i) (h2 : i ≤ xs.length) :
    Calls Try.prog 22 #[.pointer (some ⟨b, 0, none⟩), .int .i64 i] (w.drewN n) fun e w'' => e = .returned (.int .i64 (hd xs i)) ∧ ∃ m, w'' = w.drewN m :=
  (head_yes (h.drewN n) hw i h1 h2).mono fun _ _ ⟨he, hm⟩ => ⟨he, n, hm.symm⟩

/-- a call that only reads, and may draw, and what it tells -/
def RetD (v : Value) (w : World) (e : Ending) (w' : World) : Prop := e = .returned v ∧ ∃ n, w' = w.drewN n
/-- is a number one of those that there are, in the class of the first of a list? -/
def okB (xs l : List Int) (i : Int) : Bool := decide (1 ≤ i) && decide (i ≤ xs.length) && decide (hd xs i = hd xs (l.getD 0 0))
def sameB (xs l : List Int) : Bool := l.all (okB xs l)
theorem same_split (xs l : List Int) (k : Nat) (hk : k < l.length) (h : ∀ j, j < k → okB xs l (l.getD j 0) = true) (hno : okB xs l (l.getD k 0) = false) : sameB xs l = false := by
  unfold sameB
  rw [List.all_eq_false]
  refine ⟨l.getD k 0, ?_, by simpa using hno⟩
  rw [List.getD_eq_getElem?_getD, List.getElem?_eq_getElem hk]
  exact List.getElem_mem hk
theorem same_full (xs l : List Int) (h : ∀ j, j < l.length → okB xs l (l.getD j 0) = true) : sameB xs l = true := by
  unfold sameB
  rw [List.all_eq_true]
  intro x hx
  obtain ⟨j, hj, rfl⟩ := List.getElem_of_mem hx
  have := h j hj
  rwa [List.getD_eq_getElem?_getD, List.getElem?_eq_getElem hj] at this

set_option maxHeartbeats 1600000 in
theorem same_any {w : World} {B b : Nat} {v : Value} {xs : List Int} (h : UfAt w B b v xs) (hw : Wf xs) (lv : Value) (l : List Int) (hl : IntsAt w lv l) :
    Calls Try.prog 21 #[.pointer (some ⟨b, 0, none⟩), lv] w (RetD (.bool (sameB xs l)) w) := by
  obtain ⟨a, cap, rfl, hm, hc⟩ := hl
  have HC := Lib.hid hc; clear hc
  go_enter Try.func21, Try.ntmps21
  go_wp2
  go_loopw [11] (fun t wr => ∃ k : Nat, k ≤ l.length ∧ (∀ j, j < k → okB xs l (l.getD j 0) = true) ∧ t = .int .i64 k ∧ ∃ n, wr = w.drewN n) (fun t _ => l.length - (intOf t).toNat)
  case atStart => exact ⟨0, by omega, fun j hj => by omega, rfl, 0, rfl⟩
  case round =>
    obtain ⟨k, hk, hok, rfl, n, rfl⟩ := hrel
    have HOK := Lib.hid hok; clear hok
    by_cases hlt : k < l.length
    · obtain ⟨g, o, rfl, hcell⟩ := HC.out (by omega)
      have hc0 : (w.drewN n).cell? _ = _ := hcell 0 (by omega)
      have hck : (w.drewN n).cell? _ = _ := hcell k hlt
      clear hcell
      have h' := h.drewN n
      obtain ⟨W, hW⟩ : ∃ W, w.drewN n = W := ⟨_, rfl⟩
      rw [hW] at hc0 hck h' ⊢
      rw [Nat.add_zero] at hc0
      have HW := Lib.hid hW; clear hW
      have hx0 : l.getD 0 0 = l.getD 0 0 := rfl
      have hok0 : 0 < k → okB xs l (l.getD 0 0) = true := fun h0 => HOK.out 0 h0
      have hs := same_split xs l k hlt HOK.out
      have hq : k = 0 → l.getD k 0 = l.getD 0 0 := fun e => by rw [e]
      generalize hy : l.getD k 0 = y at *
      generalize hz : l.getD 0 0 = z at *
      have HY := Lib.hid hy; have HZ := Lib.hid hz; clear hy hz hx0
      by_cases hr : 1 ≤ y ∧ y ≤ (xs.length : Int)
      · obtain ⟨r1, r2⟩ := hr
        have hz2 : 1 ≤ z ∧ z ≤ (xs.length : Int) := by
          by_cases k0 : k = 0
          · rw [← hq k0]; exact ⟨r1, r2⟩
          · have := hok0 (by omega)
            simp only [okB, Bool.and_eq_true, decide_eq_true_eq] at this
            exact this.1
        obtain ⟨z1, z2⟩ := hz2
        clear hok0 hq
        by_cases he : hd xs y = hd xs z
        · have e2 : (hd xs y != hd xs z) = false := by simp [he]
          have HE := Lib.hid he; clear he
          have HS := Lib.hid hs; clear hs
          go_wp2
          go_quiet ((first | (go_at_call 27; with_reducible exact is_q h' hw _ _ r1 r2) | (go_at_call 22; first | with_reducible exact head_q h' hw _ y r1 r2 | with_reducible exact head_q h' hw _ z z1 z2)))
          go_wp2
          go_roundw
          case rel =>
            refine ⟨k + 1, by omega, fun j hj => ?_, by go_num, ?_⟩
            · by_cases e : j = k
              · rw [e, HY.out]
                simp only [okB, HZ.out, HE.out, decide_true, Bool.and_true, Bool.and_eq_true, decide_eq_true_eq]
                exact ⟨r1, r2⟩
              · exact HOK.out j (by omega)
            · rw [← HW.out]; exact ⟨_, World.drewN_drewN _ _ _⟩
          case measure => simp [intOf]; omega
        · have e2 : (hd xs y != hd xs z) = true := by simp [he]
          have hS : sameB xs l = false := hs (by simp only [okB, HZ.out]; simp [he])
          have HS := Lib.hid hS; clear hS hs he
          go_wp2
          go_quiet ((first | (go_at_call 27; with_reducible exact is_q h' hw _ _ r1 r2) | (go_at_call 22; first | with_reducible exact head_q h' hw _ y r1 r2 | with_reducible exact head_q h' hw _ z z1 z2)))
          go_wp2
          go_ret
          rw [HS.out, ← HW.out]
          exact ⟨rfl, _, World.drewN_drewN _ _ _⟩
      · have hS : sameB xs l = false := hs (by simp only [okB]; simp only [Bool.and_eq_false_iff, decide_eq_false_iff_not]; omega)
        have HS := Lib.hid hS; clear hS hs hok0 hq
        have hr' : y < 1 ∨ xs.length < y := by omega
        clear hr
        go_wp2
        go_quiet ((go_at_call 27; with_reducible exact isno_q h' hw _ _ hr'))
        go_wp2
        go_ret
        rw [HS.out, ← HW.out]
        exact ⟨rfl, _, World.drewN_drewN _ _ _⟩
    · have : k = l.length := by omega
      subst this
      have hS := same_full xs l HOK.out
      have HS := Lib.hid hS; clear hS
      go_wp2
      go_ret
      rw [HS.out]
      exact ⟨rfl, _, rfl⟩
theorem same_nil (w : World) (lv : Value) : Calls Try.prog 21 #[.pointer none, lv] w (Ret (.bool false) w) := by
  go_enter Try.func21, Try.ntmps21
  go_wp2
  go_ret
  exact ⟨rfl, rfl⟩
end Go.Proofs.Ytoiikbomdlnjlaa.Uf
