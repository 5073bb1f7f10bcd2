/- Proved: contracts of package uf's functions that make or write memory: Grow, New, Class, Classes, Join. -/
import Derived.Test.YtoiikbomdlnjlaaUf1
import Derived.Deep.RegionLaw
import Derived.Deep.RegionLawGrows
import Derived.Deep.RegionWith
set_option linter.unusedVariables false
set_option linter.unusedSimpArgs false
namespace Go.Proofs.Ytoiikbomdlnjlaa.Uf
open Go.RowKit

theorem infoInt : (Try.prog.info? 3).map (fun i => (i.zero, i.size, i.bytes)) = some (some (.int .i64 0), 1, 8) := by kernel_rfl
/-- what a call does to an object: what it was, and what it is, in memory from B on; of what is below B, and of the blocks that are not the object's, nothing turns -/
def GrowPost (B b : Nat) (v : Value) (xs' : List Int) (w : World) (e : Ending) (w' : World) : Prop :=
  e = .returned (.int .i64 0) ∧ ∃ v', UfAt w' B b v' xs' ∧ Below B w w' ∧ (∀ k, k < w.heap.size → k ≠ b → v.ownBlock ≠ some k → w'.heap[k]? = w.heap[k]?)

/-- the numbers up to n, the new ones each a class -/
def growTo (xs : List Int) (n : Nat) : List Int := xs ++ (List.range' xs.length (n - xs.length)).map (fun j : Nat => (j : Int) + 1)
theorem growTo_len (xs : List Int) (n : Nat) (h : xs.length ≤ n) : (growTo xs n).length = n := by simp [growTo]; omega
theorem growTo_step (xs : List Int) (n : Nat) (h : xs.length ≤ n) : growTo xs n ++ [(n : Int) + 1] = growTo xs (n + 1) := by
  unfold growTo
  rw [show n + 1 - xs.length = (n - xs.length) + 1 by omega, List.range'_concat, List.map_append, List.append_assoc]
  simp; omega
theorem growTo_self (xs : List Int) : growTo xs xs.length = xs := by simp [growTo]

theorem setCell_at {w : World} {b : Nat} {v : Value} {T : TypeId} (h : w.heap[b]? = some (.cells #[v] T (0, 0))) (v' : Value) :
    (w.setCell ⟨b, 0, none⟩ v').heap[b]? = some (.cells #[v'] T (0, 0)) := by
  simp [World.setCell, Array.getElem?_modify, h]
theorem undrew {w w2 : World} {r : Option Nat} (h : w.drew.grownBy w2 r) : w.grownBy w2 r := ⟨h.1, h.2, h.3, h.4, h.5⟩
/-- an append to the slice in the object, stored back -/
theorem grow_step {w w2 : World} {B b : Nat} {v : Value} {xs ys : List Int} {o : Obj} {g n c : Nat} (h : UfAt w B b v xs)
    (hg : (w.alloc o).grownBy w2 v.ownBlock) (ho : w2.ownsRow B 3 1 (.slice (some ⟨g, 0, none⟩) n c) n (ys.map (Value.int .i64)))
    (hor : v.ownBlock = some g ∨ g = w.heap.size + 1) (hy : ys.length = n) :
    UfAt (w2.setCell ⟨b, 0, none⟩ (.slice (some ⟨g, 0, none⟩) n c)) B b (.slice (some ⟨g, 0, none⟩) n c) ys ∧
    Below B w (w2.setCell ⟨b, 0, none⟩ (.slice (some ⟨g, 0, none⟩) n c)) ∧
    (∀ k, k < w.heap.size → k ≠ b → v.ownBlock ≠ some k → (w2.setCell ⟨b, 0, none⟩ (.slice (some ⟨g, 0, none⟩) n c)).heap[k]? = w.heap[k]? ∧ g ≠ k) := by
  have hlt := h.lt
  have hsz : (w.alloc o).heap.size = w.heap.size + 1 := by simp
  have hown : ∀ k, v.ownBlock = some k → B ≤ k := fun k hk => (h.own.lt k hk).1
  have hgb : g ≠ b := by
    rcases hor with e | e
    · intro e2; exact h.ne (by rw [e, e2])
    · omega
  have hold : ∀ k, k < w.heap.size → v.ownBlock ≠ some k → w2.heap[k]? = w.heap[k]? := fun k hk hne =>
    (hg.block k (by omega) (fun e => hne e.symm)).trans (Below.heap_alloc w o k hk)
  have hbB : B ≤ w.heap.size := by have := h.ge; omega
  refine ⟨⟨h.ge, setCell_at ((hold b hlt h.ne).trans h.blk) _, ?_, by simp [Value.ownBlock, hgb]⟩, ?_, ?_⟩
  · rw [hy]
    obtain ⟨a1, a2⟩ := ho
    refine ⟨a1, ?_⟩
    rcases a2 with ⟨e, _⟩ | ⟨g', cap, cur, e, r1, r2, r3⟩
    · simp at e
    · have e1 : g = g' := by simp at e; exact e.1
      subst e1
      exact .inr ⟨g, cap, cur, e, r1, (Below.heap_setCell w2 _ _ g hgb).trans r2, r3⟩
  · have b1 : Below B w (w.alloc o) := (Below.refl _ _).alloc hbB o
    exact (b1.grown hg (by omega) hown).setCell h.ge _
  · intro k hk hkb hne
    refine ⟨(Below.heap_setCell w2 _ _ k hkb).trans (hold k hk hne), ?_⟩
    rcases hor with e | e
    · intro e2; exact hne (by rw [e, e2])
    · omega

set_option maxHeartbeats 3200000 in
theorem grow_yes {w : World} {B b : Nat} {v : Value} {xs : List Int} (h : UfAt w B b v xs) (n : Nat) (h1 : xs.length ≤ n) (h2 : n ≤ 1000) :
    Calls Try.prog 24 #[.pointer (some ⟨b, 0, none⟩), .int .i64 n] w (GrowPost B b v (growTo xs n) w) := by
  obtain ⟨i0, hi, hz0, hz1, hz2⟩ := info_parts infoInt
  have hc := h.cell
  obtain ⟨a, cap, rfl⟩ := h.is_slice
  have hB : B ≤ w.heap.size := by have := h.ge; have := h.lt; omega
  have H := Lib.hid h; clear h
  have t1 : decide (n < xs.length) = false := decide_eq_false (by omega)
  have t2 : decide ((1000 : Int) < (n : Int)) = false := decide_eq_false (by omega)
  go_enter Try.func24, Try.ntmps24
  go_wp2
  clear hc
  go_loopg [] (n - xs.length) (fun d wr => ∃ (m : Nat) (v' : Value), d = n - m ∧ xs.length ≤ m ∧ m ≤ n ∧ UfAt wr B b v' (growTo xs m) ∧ Below B w wr ∧ (∀ k, k < w.heap.size → k ≠ b → (Value.slice a xs.length cap).ownBlock ≠ some k → wr.heap[k]? = w.heap[k]? ∧ v'.ownBlock ≠ some k))
  case atStart => 
    refine ⟨xs.length, _, rfl, Nat.le_refl _, h1, ?_, Below.refl _ _, fun k h1 h2 h3 => ⟨rfl, h3⟩⟩
    rw [growTo_self]; exact H.out
  case round =>
    obtain ⟨m, v', hd, m1, m2, hu, hbel, hfar⟩ := hrel
    have hc := hu.cell
    have hf := hu.frozen
    have hown := hu.own
    have hge := hu.ge
    have hlt := hu.lt
    have hne := hu.ne
    obtain ⟨a', cap', rfl⟩ := hu.is_slice
    have hl := growTo_len xs m m1
    rw [hl] at hc hown hu hne hfar
    have HU := Lib.hid hu
    have HO := Lib.hid hown
    have HF := Lib.hid hfar
    have HBEL := Lib.hid hbel
    clear hu hown hfar hl hbel hne
    by_cases hlt2 : m < n
    · have hm1 : wr.cell? ⟨b, 0, none⟩ = some (.slice a' m cap') := hc
      have hcw : ∀ (w' : World), (wr.drew.alloc (.cells #[.int .i64 ((m : Int) + 1)] 3)).grownBy w' (Value.slice a' m cap').ownBlock → w'.cell? ⟨b, 0, none⟩ = some (.slice a' m cap') ∧ w'.frozen? ⟨b, 0, none⟩ = false := by
        intro w' hg
        have hn : some b ≠ (Value.slice a' m cap').ownBlock := fun e => HU.out.ne e.symm
        refine ⟨?_, ?_⟩
        · rw [hg.cell_far ⟨b, 0, none⟩ (by simp; omega) hn, World.cell?_alloc_past _ _ _ (by simpa using hlt)]; exact hc
        · rw [hg.frozen_far ⟨b, 0, none⟩ (by simp; omega) hn, World.frozen?_alloc_past _ _ _ (by simpa using hlt)]; exact hf
      have HCW := Lib.hid hcw
      clear hcw hm1
      have hwr : IntKind.i64.wrap ((m : Int) + 1) = (m : Int) + 1 := by rw [IntKind.wrap_i64]; omega
      go_wp2_with fail
      go_region_law (refine step_append_lies _ rfl (.tmp 31) (.tmp 38) 35 rfl B 3 i0 (.int .i64 0) 1 8 Try.underlying35 hi hz0 hz1 hz2 rfl (by decide) _ _ _ (by simp [Act.eval, Act.put]) ((World.ownsRow.drew HO.out).alloc _) ⟨wr.heap.size, 0, none⟩ 1 1 [.int .i64 ((m : Int) + 1)] (by simp [Act.eval, Act.put]) rfl (World.news_of_block (cs := #[.int .i64 ((m : Int) + 1)]) (heap_alloc_new wr.drew _)) (by intro u hu; simp at hu; subst hu; rfl) (by decide) (by unfold maxLen; omega) (by omega) (by simp; omega) _ rfl ?_; intro g c w2 ho hg hor hlt3; obtain ⟨hcw, hfw⟩ := HCW.out w2 hg; have HO2 := Lib.hid ho; have HG := Lib.hid hg; have HOR := Lib.hid hor; have HLT := Lib.hid hlt3; clear ho hg hor hlt3)
      all_goals
        clear hcw hfw hc hf
        go_wp2
        go_roundg (n - (m + 1))
        case measure => omega
        case rel =>
          have hor : (Value.slice a' m cap').ownBlock = some g ∨ g = wr.heap.size + 1 := by simpa using HOR.out
          have hst := grow_step (ys := growTo xs (m + 1)) HU.out (undrew HG.out) (by rw [← growTo_step xs m m1]; simpa using HO2.out) hor (growTo_len xs (m + 1) (by omega))
          refine ⟨m + 1, _, rfl, by omega, by omega, hst.1, HBEL.out.trans hst.2.1, fun k k1 k2 k3 => ?_⟩
          have hk := HF.out k k1 k2 k3
          have := hst.2.2 k (by have := HBEL.out.size; omega) k2 hk.2
          exact ⟨this.1.trans hk.1, by simp [Value.ownBlock, this.2]⟩
    · have : m = n := by omega
      subst this
      go_wp2
      go_ret
      exact ⟨rfl, _, HU.out, HBEL.out, fun k k1 k2 k3 => (HF.out k k1 k2 k3).1⟩
theorem grow_no {w : World} {B b : Nat} {v : Value} {xs : List Int} (h : UfAt w B b v xs) (hl : xs.length ≤ 1000) (n : Int) (h1 : n < xs.length ∨ 1000 < n) :
    Calls Try.prog 24 #[.pointer (some ⟨b, 0, none⟩), .int .i64 n] w (Ret (.int .i64 1) w) := by
  have hc := h.cell
  obtain ⟨a, cap, rfl⟩ := h.is_slice
  clear h
  by_cases h2 : n < xs.length
  · clear h1
    go_enter Try.func24, Try.ntmps24
    go_wp2
    go_ret
    exact ⟨rfl, rfl⟩
  · have h3 : 1000 < n := by omega
    clear h1
    go_enter Try.func24, Try.ntmps24
    go_wp2
    go_ret
    exact ⟨rfl, rfl⟩
theorem grow_nil (w : World) (n : Int) : Calls Try.prog 24 #[.pointer none, .int .i64 n] w (Ret (.int .i64 1) w) := by
  go_enter Try.func24, Try.ntmps24
  go_wp2
  go_ret
  exact ⟨rfl, rfl⟩

/-- a new object that holds the numbers xs -/
def NewPost (xs : List Int) (w : World) (e : Ending) (w' : World) : Prop :=
  ∃ b v, e = .returned (.tuple #[.pointer (some ⟨b, 0, none⟩), .int .i64 0]) ∧ UfAt w' w.heap.size b v xs ∧ Below w.heap.size w w'
def RetB2 (v : Value) (w : World) (e : Ending) (w' : World) : Prop := e = .returned v ∧ Below w.heap.size w w'
theorem uf_zero (w : World) (B : Nat) (hB : B ≤ w.heap.size) : UfAt (w.alloc (.cells #[.slice none 0 0] 56)) B w.heap.size (.slice none 0 0) [] :=
  ⟨hB, heap_alloc_new w _, World.ownsRow_nil _ _ _ _, by simp [Value.ownBlock]⟩

set_option maxHeartbeats 800000 in
theorem new_yes (w : World) (n : Nat) (h : n ≤ 1000) : Calls Try.prog 17 #[.int .i64 n] w (NewPost (growTo [] n) w) := by
  have hg := grow_yes (uf_zero w w.heap.size (Nat.le_refl _)) n (by simp) h
  go_enter Try.func17, Try.ntmps17
  go_wp2_with fail
  refine hg.mono ?_
  rintro e w' ⟨rfl, v', hu, hbel, -⟩
  have HU := Lib.hid hu; have HB := Lib.hid hbel; clear hu hbel hg
  go_wp2
  go_ret2
  exact ⟨_, _, rfl, HU.out, ((Below.refl _ _).alloc (Nat.le_refl _) _).trans HB.out⟩
set_option maxHeartbeats 800000 in
theorem new_no (w : World) (n : Int) (h : n < 0 ∨ 1000 < n) : Calls Try.prog 17 #[.int .i64 n] w (RetB2 (.tuple #[.pointer none, .int .i64 1]) w) := by
  have hg := grow_no (uf_zero w w.heap.size (Nat.le_refl _)) (by simp) n (by simpa using h)
  go_enter Try.func17, Try.ntmps17
  go_wp2_with fail
  refine hg.mono ?_
  rintro e w' ⟨rfl, rfl⟩
  clear hg
  go_wp2
  go_ret2
  exact ⟨rfl, (Below.refl _ _).alloc (Nat.le_refl _) _⟩

/-- the numbers from j on, d of them, whose head is h -/
def clsF (xs : List Int) (h : Int) : Nat → Int → List Int
  | 0, _ => []
  | d + 1, j => if hd xs j = h then j :: clsF xs h d (j + 1) else clsF xs h d (j + 1)
/-- a class -/
def cls (xs : List Int) (i : Int) : List Int := clsF xs (hd xs i) (xs.length + 1 - (hd xs i).toNat) (hd xs i)
theorem clsF_len (xs : List Int) (h : Int) : ∀ d j, (clsF xs h d j).length ≤ d := by
  intro d
  induction d with
  | zero => intro j; simp [clsF]
  | succ d ih => intro j; have := ih (j + 1); simp only [clsF]; split <;> simp <;> omega
/-- a list of numbers in new memory -/
def ListPost (l : List Int) (w : World) (e : Ending) (w' : World) : Prop :=
  ∃ v, e = .returned v ∧ w'.ownsRow w.heap.size 3 1 v l.length (l.map (Value.int .i64)) ∧ Below w.heap.size w w'

set_option maxHeartbeats 3200000 in
theorem class_yes {w : World} {B b : Nat} {v : Value} {xs : List Int} (h : UfAt w B b v xs) (hw : Wf xs) (i : Int) (h1 : 1 ≤ i) (h2 : i ≤ xs.length) :
    Calls Try.prog 23 #[.pointer (some ⟨b, 0, none⟩), .int .i64 i] w (ListPost (cls xs i) w) := by
  obtain ⟨i0, hi, hz0, hz1, hz2⟩ := info_parts infoInt
  have his := is_yes h hw.len i h1 h2
  have hhd := head_yes h hw i h1 h2
  have hr := hd_range hw _ i (Nat.le_refl _) h1 h2
  obtain ⟨r1, r2, r3⟩ := hr
  clear r3
  have hlen := hw.len
  have HT : Hid (cls xs i = clsF xs (hd xs i) (xs.length + 1 - (hd xs i).toNat) (hd xs i)) := rfl
  generalize hd xs i = z at *
  go_enter Try.func23, Try.ntmps23
  go_wp2_with (first | (go_at_call 27; refine his.mono ?_; rintro e w' ⟨rfl, rfl⟩) | (go_at_call 22; refine hhd.mono ?_; rintro e w' ⟨rfl, rfl⟩))
  clear his hhd
  go_loopw [5, 7] (fun v5 v7 wr => ∃ (j : Int) (acc : List Int), z ≤ j ∧ j ≤ xs.length + 1 ∧ acc.length ≤ (j - z).toNat ∧ v7 = .int .i64 j ∧ acc ++ clsF xs z (xs.length + 1 - j.toNat) j = cls xs i ∧ wr.ownsRow w.heap.size 3 1 v5 acc.length (acc.map (Value.int .i64)) ∧ Below w.heap.size w wr) (fun _ v7 _ => xs.length + 1 - (intOf v7).toNat)
  case atStart => exact ⟨z, [], by omega, by omega, by simp, rfl, HT.out.symm, World.ownsRow_nil _ _ _ _, Below.refl _ _⟩
  case round =>
    obtain ⟨j, acc, j1, j2, ha, rfl, hacc, hown, hbel⟩ := hrel
    have hu := h.below hbel
    have hc := hu.cell
    obtain ⟨a, cap, rfl⟩ := hu.is_slice
    have HA := Lib.hid hacc; have HO := Lib.hid hown; have HB := Lib.hid hbel; clear hacc hown hbel
    by_cases hlt : j ≤ xs.length
    · have hh := head_yes hu hw j (by omega) hlt
      have hstep : clsF xs z (xs.length + 1 - j.toNat) j = if hd xs j = z then j :: clsF xs z (xs.length + 1 - (j + 1).toNat) (j + 1) else clsF xs z (xs.length + 1 - (j + 1).toNat) (j + 1) := by
        rw [show xs.length + 1 - j.toNat = (xs.length + 1 - (j + 1).toNat) + 1 by omega]; rfl
      have HS := Lib.hid hstep; clear hstep
      generalize hy : hd xs j = y at *
      have HY := Lib.hid hy; clear hy
      by_cases he : y = z
      · have e2 : (y == z) = true := by simp [he]
        have HE := Lib.hid he; clear he
        go_wp2_with (first | (go_at_call 22; refine hh.mono ?_; rintro e w' ⟨rfl, rfl⟩) | (at_builtin; refine wpList_append_lies _ rfl (.tmp 30) (.tmp 32) 35 rfl w.heap.size 3 i0 (.int .i64 0) 1 8 Try.underlying35 hi hz0 hz1 hz2 rfl (by decide) _ _ _ (by simp [Act.eval, Act.put]) (HO.out.alloc _) ⟨wr.heap.size, 0, none⟩ 1 1 [.int .i64 j] (by simp [Act.eval, Act.put]) rfl (World.news_of_block (cs := #[.int .i64 j]) (heap_alloc_new wr _)) (by intro u hu; simp at hu; subst hu; rfl) (by decide) (by unfold maxLen; omega) (by omega) (by have := HB.out.size; simp; omega) _ rfl ?_; intro g c w2 ho hg hor hlt3; have HO2 := Lib.hid ho; have HG := Lib.hid hg; clear ho hg hor hlt3))
        go_roundw
        case rel =>
          refine ⟨j + 1, acc ++ [j], by omega, by omega, by simp; omega, rfl, ?_, ?_, ?_⟩
          · rw [List.append_assoc, ← HA.out, HS.out, if_pos HE.out]; rfl
          · simpa using HO2.out
          · exact (HB.out.alloc (by have := HB.out.size; omega) _).grown HG.out (by have := HB.out.size; simp; omega) (fun k hk => (HO.out.lt k hk).1)
        case measure => simp [intOf]; omega
      · have e2 : (y == z) = false := by simp [he]
        have HE := Lib.hid he; clear he
        go_wp2_with (go_at_call 22; refine hh.mono ?_; rintro e w' ⟨rfl, rfl⟩)
        go_roundw
        case rel => exact ⟨j + 1, acc, by omega, by omega, by omega, rfl, by rw [← HA.out, HS.out, if_neg HE.out], HO.out, HB.out⟩
        case measure => simp [intOf]; omega
    · go_wp2
      go_ret
      refine ⟨_, rfl, ?_, HB.out⟩
      have e0 : xs.length + 1 - j.toNat = 0 := by omega
      rw [← HA.out, e0]
      simpa [clsF] using HO.out
theorem class_no {w : World} {B b : Nat} {v : Value} {xs : List Int} (h : UfAt w B b v xs) (hw : xs.length ≤ 1000) (i : Int) (h1 : i < 1 ∨ xs.length < i) :
    Calls Try.prog 23 #[.pointer (some ⟨b, 0, none⟩), .int .i64 i] w (Ret (.slice none 0 0) w) := by
  have his := is_no h hw i h1
  clear h
  go_enter Try.func23, Try.ntmps23
  go_wp2_with (go_at_call 27; refine his.mono ?_; rintro e w' ⟨rfl, rfl⟩)
  go_ret
  exact ⟨rfl, rfl⟩
theorem class_nil (w : World) (i : Int) :
    Calls Try.prog 23 #[.pointer none, .int .i64 i] w (Ret (.slice none 0 0) w) := by
  have his := is_nil w i
  go_enter Try.func23, Try.ntmps23
  go_wp2_with (go_at_call 27; refine his.mono ?_; rintro e w' ⟨rfl, rfl⟩)
  go_ret
  exact ⟨rfl, rfl⟩
end Go.Proofs.Ytoiikbomdlnjlaa.Uf
