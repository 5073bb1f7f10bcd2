/- Proved: the helper SameInts; any Join; lists that come in as arguments. -/
import Derived.Test.YtoiikbomdlnjlaaUf5
import Derived.Test.YtoiikbomdlnjlaaUfPure
import Derived.OpenShut
import Derived.Deep.Matrix
set_option linter.unusedVariables false
set_option linter.unusedSimpArgs false
namespace Go.Proofs.Ytoiikbomdlnjlaa.Uf
open Go.RowKit

def sameL (a b : List Int) : Bool := decide (a = b)
theorem getD_ext {a b : List Int} (hl : a.length = b.length) (h : ∀ j, j < a.length → a.getD j 0 = b.getD j 0) : a = b := by
  apply List.ext_getElem hl
  intro j h1 h2
  have := h j h1
  rwa [List.getD_eq_getElem?_getD, List.getD_eq_getElem?_getD, List.getElem?_eq_getElem h1, List.getElem?_eq_getElem h2] at this
set_option maxHeartbeats 1600000 in
theorem sameInts_any (w : World) (v1 v2 : Value) (l1 l2 : List Int) (h1 : IntsAt w v1 l1) (h2 : IntsAt w v2 l2) :
    Calls Try.prog 20 #[v1, v2] w (RetD (.bool (sameL l1 l2)) w) := by
  obtain ⟨a1, cap1, rfl, hm1, hc1⟩ := h1
  obtain ⟨a2, cap2, rfl, hm2, hc2⟩ := h2
  have HC1 := Lib.hid hc1; have HC2 := Lib.hid hc2; clear hc1 hc2
  by_cases hl : l1.length = l2.length
  · have e0 : ((l1.length : Int) != (l2.length : Int)) = false := by simp [hl]
    have HL := Lib.hid hl; clear hl
    go_enter Try.func20, Try.ntmps20
    go_wp2
    go_loopw [5] (fun t wr => ∃ k : Nat, k ≤ l1.length ∧ (∀ j, j < k → l1.getD j 0 = l2.getD j 0) ∧ t = .int .i64 k ∧ ∃ n, wr = w.drewN n) (fun t _ => l1.length - (intOf t).toNat)
    case atStart => exact ⟨0, by omega, fun j hj => by omega, rfl, 0, rfl⟩
    case round =>
      obtain ⟨k, hk, hok, rfl, n, hw⟩ := hrel
      have HOK := Lib.hid hok; clear hok
      have HW := Lib.hid hw
      by_cases hlt : k < l1.length
      · have hlt2 : k < l2.length := by have := HL.out; omega
        obtain ⟨g1, o1, rfl, hcell1⟩ := HC1.out (by omega)
        obtain ⟨g2, o2, rfl, hcell2⟩ := HC2.out (by omega)
        have hk1 : wr.cell? ⟨g1, o1 + k, none⟩ = some (.int .i64 (l1.getD k 0)) := by rw [hw]; exact hcell1 k hlt
        have hk2 : wr.cell? ⟨g2, o2 + k, none⟩ = some (.int .i64 (l2.getD k 0)) := by rw [hw]; exact hcell2 k hlt2
        clear hcell1 hcell2 hw
        obtain ⟨y, hy⟩ : ∃ y, l1.getD k 0 = y := ⟨_, rfl⟩
        obtain ⟨z, hz⟩ : ∃ z, l2.getD k 0 = z := ⟨_, rfl⟩
        rw [hy] at hk1
        rw [hz] at hk2
        have HY := Lib.hid hy; have HZ := Lib.hid hz; clear hy hz
        by_cases he : y = z
        · have e2 : (y == z) = true := by simp [he]
          have HE := Lib.hid he; clear he
          go_wp2
          go_quiet (fail)
          go_wp2
          go_roundw
          case rel =>
            refine ⟨k + 1, by omega, fun j hj => ?_, by go_num, n + nq, by rw [HW.out]; exact World.drewN_drewN _ _ _⟩
            by_cases e : j = k
            · rw [e, HY.out, HZ.out]; exact HE.out
            · exact HOK.out j (by omega)
          case measure => simp [intOf]; omega
        · have e2 : (y == z) = false := by simp [he]
          have HE := Lib.hid he; clear he
          go_wp2
          go_quiet (fail)
          go_wp2
          go_ret
          have : sameL l1 l2 = false := decide_eq_false (fun e => HE.out (by rw [← HY.out, ← HZ.out, e]))
          rw [this]
          exact ⟨rfl, n + nq, by rw [HW.out]; exact World.drewN_drewN _ _ _⟩
      · have hkl : k = l1.length := by omega
        clear hw
        have hS : sameL l1 l2 = true := decide_eq_true (getD_ext HL.out (by rw [← hkl]; exact HOK.out))
        have HS := Lib.hid hS; clear hS
        subst hkl
        go_wp2
        go_ret
        rw [HS.out]
        exact ⟨rfl, n, HW.out⟩
  · have e0 : ((l1.length : Int) != (l2.length : Int)) = true := by simp; omega
    have hS : sameL l1 l2 = false := decide_eq_false (fun e => hl (by rw [e]))
    have HS := Lib.hid hS; clear hS hl
    go_enter Try.func20, Try.ntmps20
    go_wp2
    go_ret
    rw [HS.out]
    exact ⟨rfl, 0, rfl⟩
theorem sameInts_q {w : World} (v1 v2 : Value) {l1 l2 : List Int} (h1 : IntsAt w v1 l1) (h2 : IntsAt w v2 l2) (n : Nat) :
    Calls Try.prog 20 #[v1, v2] (w.drewN n) fun e w'' => e = .returned (.bool (sameL l1 l2)) ∧ ∃ m, w'' = w.drewN m :=
  (sameInts_any (w.drewN n) v1 v2 l1 l2 h1 h2).mono fun _ _ ⟨he, m, hm⟩ => ⟨he, n + m, by rw [hm, World.drewN_drewN]⟩

/-- behind any join -/
def AnyJoin (B b : Nat) (v : Value) (n : Nat) (w : World) (e : Ending) (w' : World) : Prop :=
  ∃ (x y : Int) (ys : List Int), e = .returned (.tuple #[.int .i64 x, .int .i64 y]) ∧ Wf ys ∧ ys.length = n ∧ UfAt w' B b v ys ∧ Below B w w' ∧ w'.heap.size = w.heap.size ∧ (∀ k, v.ownBlock ≠ some k → w'.heap[k]? = w.heap[k]?)
theorem join_any {w : World} {B b : Nat} {v : Value} {xs : List Int} (h : UfAt w B b v xs) (hw : Wf xs) (lv : Value) (l : List Int) (hl : IntsAt w lv l)
    (hd1 : 0 < l.length → ∀ g, lv.ownBlock = some g → v.ownBlock ≠ some g) (hbig : l.length ≤ 1000000000) :
    Calls Try.prog 18 #[.pointer (some ⟨b, 0, none⟩), lv] w (AnyJoin B b v xs.length w) := by
  by_cases hin : ∀ j, j < l.length → 1 ≤ l.getD j 0 ∧ l.getD j 0 ≤ xs.length
  · refine (join_yes h hw lv l hl hd1 hin hbig).mono fun e w' ⟨he, hu, hb, hs, hf⟩ => ?_
    cases l with
    | nil => exact ⟨_, _, _, he, hw, rfl, hu, hb, hs, hf⟩
    | cons i l =>
      have h0 := hin 0 (by simp)
      have := joinAll_wf ((i :: l).getD 0 0) (i :: l) xs hw h0.1 h0.2 (fun j hj => isB_all hin j hj)
      exact ⟨_, _, _, he, this.1, this.2, hu, hb, hs, hf⟩
  · have : ∃ k0, k0 < l.length ∧ (l.getD k0 0 < 1 ∨ xs.length < l.getD k0 0) := by
      apply Classical.byContradiction
      intro hno
      apply hin
      intro j hj
      apply Classical.byContradiction
      intro h2
      exact hno ⟨j, hj, by omega⟩
    obtain ⟨k0, hk0, hout⟩ := this
    refine (join_no h hw lv l hl k0 hk0 hout).mono fun e w' ⟨he, hww⟩ => ?_
    subst hww
    exact ⟨_, _, xs, he, hw, rfl, h, Below.refl _ _, rfl, fun _ _ => rfl⟩

/-- a list of numbers that came in -/
structure ArgInts (w : World) (v : Value) (l : List Int) : Prop where
  ints : IntsAt w v l
  lt : 0 < l.length → ∀ g, v.ownBlock = some g → g < w.heap.size
  wf : ∀ i ∈ l, (Lit.int .i64 i).wf = true
theorem ArgInts.nil (w : World) : ArgInts w (.slice none 0 0) [] := ⟨⟨none, 0, rfl, by decide, fun h => by simp at h⟩, fun h => by simp at h, fun i hi => by simp at hi⟩
theorem ArgInts.of {w : World} {x : Addr} {len cap : Nat} {zs : List Int} (hl : len ≤ cap) (hm : cap ≤ maxLen) (hz : zs.length = cap)
    (hc : ∀ i, i < zs.length → w.cell? (x.add i) = some (.int .i64 (zs.getD i 0))) (hw : ∀ n ∈ zs, (Lit.int .i64 n).wf = true) : ArgInts w (.slice (some x) len cap) (zs.take len) := by
  have hlen : (zs.take len).length = len := by simp; omega
  have hget : ∀ j, j < len → (zs.take len).getD j 0 = zs.getD j 0 := fun j hj => by
    simp only [List.getD_eq_getElem?_getD, List.getElem?_take, if_pos hj]
  refine ⟨⟨some x, cap, by rw [hlen], by unfold maxLen at hm; omega, fun h0 => ?_⟩, fun h0 g hg => ?_, fun i hi => hw i (List.mem_of_mem_take hi)⟩
  · obtain ⟨b, off, rfl, hcell⟩ := ints_at hc (by omega)
    refine ⟨b, off, rfl, fun j hj => ?_⟩
    rw [hget j (by omega)]
    exact hcell j (by omega)
  · obtain ⟨b, off, rfl, hcell⟩ := ints_at hc (by omega)
    simp only [Value.ownBlock, Option.some.injEq] at hg
    subst hg
    exact World.block_lt_of_cell? w ⟨b, off + 0, none⟩ (hcell 0 (by omega))
theorem RowsAt.keep {w w' : World} {B : Nat} {v : Value} {cs : List (List Int)} {vals : List Value} (h : RowsAt w B v cs vals) (hk : ∀ g, B ≤ g → g < w.heap.size → w'.heap[g]? = w.heap[g]?) : RowsAt w' B v cs vals := by
  have keep : ∀ {E : TypeId} {u : Value} {n : Nat} {xs : List Value}, w.ownsRow B E 1 u n xs → w'.ownsRow B E 1 u n xs := by
    intro E u n xs hu
    obtain ⟨a1, a2⟩ := hu
    refine ⟨a1, ?_⟩
    rcases a2 with e | ⟨g, cap, cur, rfl, hb, hg, rest⟩
    · exact .inl e
    · exact .inr ⟨g, cap, cur, rfl, hb, (hk g hb (Array.getElem?_eq_some_iff.1 hg).1).trans hg, rest⟩
  exact ⟨h.len, keep h.own, fun k hk' => keep (h.row k hk'), h.apart, h.pair⟩
theorem ownsRow_ints {w : World} {B : Nat} {v : Value} {xs : List Int} (h : w.ownsRow B 3 1 v xs.length (xs.map (Value.int .i64))) (hm : xs.length ≤ 1000000000) : IntsAt w v xs := by
  obtain ⟨h1, h2⟩ := h
  rcases h2 with ⟨rfl, hn⟩ | ⟨g, cap, cur, rfl, hb, hg, hle, hmm, hs, ht⟩
  · have := List.eq_nil_of_length_eq_zero hn
    subst this
    exact (ArgInts.nil w).ints
  · refine ⟨_, cap, rfl, by omega, fun _ => ⟨g, 0, rfl, fun j hj => ?_⟩⟩
    have e : cur.toList[j]? = (xs.map (Value.int .i64))[j]? := by
      rw [← ht, List.getElem?_take, if_pos (by omega)]
    simp only [World.cell?, hg, Option.isSome_none, Bool.false_eq_true, if_false, Nat.zero_add]
    rw [Array.getElem?_toList] at e
    rw [e, List.getElem?_map, List.getD_eq_getElem?_getD, List.getElem?_eq_getElem hj]; rfl
theorem IntsAt.drewN {w : World} {v : Value} {l : List Int} (h : IntsAt w v l) (n : Nat) : IntsAt (w.drewN n) v l := h
theorem IntsAt.below {w w' : World} {v : Value} {l : List Int} {B : Nat} (h : IntsAt w v l) (hb : Below B w w') (hlt : 0 < l.length → ∀ g, v.ownBlock = some g → g < B) : IntsAt w' v l :=
  h.same fun h0 g hg => hb.block g (hlt h0 g hg)
end Go.Proofs.Ytoiikbomdlnjlaa.Uf
