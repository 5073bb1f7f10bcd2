/- Proved: contracts of package uf's Classes, and of the statements' helper SameInts. -/
import Derived.Test.YtoiikbomdlnjlaaUf3
set_option linter.unusedVariables false
set_option linter.unusedSimpArgs false
namespace Go.Proofs.Ytoiikbomdlnjlaa.Uf
open Go.RowKit

theorem infoInts : (Try.prog.info? 35).map (fun i => (i.zero, i.size, i.bytes)) = some (some (.slice none 0 0), 1, 24) := by kernel_rfl
/-- a slice of lists of numbers, in memory of its own from B on: each list in a block of its own -/
structure RowsAt (w : World) (B : Nat) (v : Value) (cs : List (List Int)) (vals : List Value) : Prop where
  len : vals.length = cs.length
  own : w.ownsRow B 35 1 v vals.length vals
  row : ∀ k, k < cs.length → w.ownsRow B 3 1 (vals.getD k (.slice none 0 0)) (cs.getD k []).length ((cs.getD k []).map (Value.int .i64))
  apart : ∀ k g, k < cs.length → (vals.getD k (.slice none 0 0)).ownBlock = some g → v.ownBlock ≠ some g
  pair : ∀ i j g, i < j → j < cs.length → (vals.getD i (.slice none 0 0)).ownBlock = some g → (vals.getD j (.slice none 0 0)).ownBlock ≠ some g
def RowsPost (cs : List (List Int)) (w : World) (e : Ending) (w' : World) : Prop :=
  ∃ v vals, e = .returned v ∧ RowsAt w' w.heap.size v cs vals ∧ Below w.heap.size w w'
theorem RowsAt.lt {w : World} {B : Nat} {v : Value} {cs : List (List Int)} {vals : List Value} (h : RowsAt w B v cs vals) (k : Nat) (g : Nat) (hk : k < cs.length)
    (hg : (vals.getD k (.slice none 0 0)).ownBlock = some g) : B ≤ g ∧ g < w.heap.size := (h.row k hk).lt g hg
theorem ownsRow_since {w w' : World} {B : Nat} {v : Value} {cs : List (List Int)} {vals : List Value} (h : RowsAt w B v cs vals) (hb : Below w.heap.size w w') : w'.ownsRow B 35 1 v vals.length vals := by
  obtain ⟨h1, h2⟩ := h.own
  refine ⟨h1, ?_⟩
  rcases h2 with hn | ⟨g, cap, cur, rfl, hB, hg, rest⟩
  · exact .inl hn
  · exact .inr ⟨g, cap, cur, rfl, hB, (hb.block g (Array.getElem?_eq_some_iff.1 hg).1).trans hg, rest⟩
/-- one more list, in new memory -/
theorem RowsAt.push {w w1 w2 : World} {B : Nat} {v : Value} {cs : List (List Int)} {vals : List Value} (h : RowsAt w B v cs vals) {c : List Int} {cv : Value} {o : Obj} {g n : Nat}
    (hB : B ≤ w.heap.size) (hb : Below w.heap.size w w1) (hc : w1.ownsRow w.heap.size 3 1 cv c.length (c.map (Value.int .i64)))
    (hg : (w1.alloc o).grownBy w2 v.ownBlock) (ho : w2.ownsRow B 35 1 (.slice (some ⟨g, 0, none⟩) (vals.length + 1) n) (vals.length + 1) (vals ++ [cv]))
    (hor : v.ownBlock = some g ∨ g = w1.heap.size + 1) : RowsAt w2 B (.slice (some ⟨g, 0, none⟩) (vals.length + 1) n) (cs ++ [c]) (vals ++ [cv]) := by
  have hsz : (w1.alloc o).heap.size = w1.heap.size + 1 := by simp
  have hvown : ∀ k, v.ownBlock = some k → B ≤ k ∧ k < w.heap.size := fun k hk => h.own.lt k hk
  have keep : ∀ k, k < w1.heap.size → v.ownBlock ≠ some k → w2.heap[k]? = w1.heap[k]? := fun k hk hne =>
    (hg.block k (by omega) (fun e => hne e.symm)).trans (Below.heap_alloc w1 o k hk)
  have rowKeep : ∀ {W : World} {B' : Nat} {u : Value} {xs : List Int}, W.ownsRow B' 3 1 u xs.length (xs.map (Value.int .i64)) → B ≤ B' → (∀ k, u.ownBlock = some k → w2.heap[k]? = W.heap[k]?) → w2.ownsRow B 3 1 u xs.length (xs.map (Value.int .i64)) := by
    intro W B' u xs hu hBB hk
    obtain ⟨a1, a2⟩ := hu
    refine ⟨a1, ?_⟩
    rcases a2 with e | ⟨g', cap, cur, rfl, r1, r2, r3⟩
    · exact .inl e
    · exact .inr ⟨g', cap, cur, rfl, by omega, (hk g' rfl).trans r2, r3⟩
  have cvlt : ∀ k, cv.ownBlock = some k → w.heap.size ≤ k ∧ k < w1.heap.size := fun k hk => hc.lt k hk
  have getOld : ∀ k, k < cs.length → (vals ++ [cv]).getD k (.slice none 0 0) = vals.getD k (.slice none 0 0) := fun k hk => by
    simp only [List.getD_eq_getElem?_getD]; rw [List.getElem?_append_left (by rw [h.len]; exact hk)]
  have getOldC : ∀ k, k < cs.length → (cs ++ [c]).getD k [] = cs.getD k [] := fun k hk => by
    simp only [List.getD_eq_getElem?_getD]; rw [List.getElem?_append_left hk]
  have getNew : (vals ++ [cv]).getD cs.length (.slice none 0 0) = cv := by
    simp only [List.getD_eq_getElem?_getD]; rw [List.getElem?_append_right (by rw [h.len]; exact Nat.le_refl _)]; simp [h.len]
  have getNewC : (cs ++ [c]).getD cs.length [] = c := by
    simp only [List.getD_eq_getElem?_getD]; rw [List.getElem?_append_right (Nat.le_refl _)]; simp
  have hsz1 := hb.size
  refine ⟨by simp [h.len], by simpa using ho, ?_, ?_, ?_⟩
  · intro k hk
    simp only [List.length_append, List.length_cons, List.length_nil] at hk
    by_cases e : k = cs.length
    · subst e; rw [getNew, getNewC]
      exact rowKeep hc hB (fun k hk => keep k (cvlt k hk).2 (fun e => by have := (hvown k e).2; have := (cvlt k hk).1; omega))
    · have hk' : k < cs.length := by omega
      rw [getOld k hk', getOldC k hk']
      refine rowKeep (h.row k hk') (Nat.le_refl _) (fun j hj => ?_)
      have := h.lt k j hk' hj
      exact (keep j (by omega) (h.apart k j hk' hj)).trans (hb.block j this.2)
  · intro k j hk hj
    simp only [List.length_append, List.length_cons, List.length_nil] at hk
    simp only [Value.ownBlock, ne_eq, Option.some.injEq]
    by_cases e : k = cs.length
    · subst e; rw [getNew] at hj
      have := cvlt j hj
      rcases hor with e1 | e1
      · have := hvown g e1; omega
      · omega
    · have hk' : k < cs.length := by omega
      rw [getOld k hk'] at hj
      have := h.lt k j hk' hj
      rcases hor with e1 | e1
      · intro e2; subst e2; exact h.apart k g hk' hj e1
      · omega
  · intro i j g' hij hj hi
    simp only [List.length_append, List.length_cons, List.length_nil] at hj
    rw [getOld i (by omega)] at hi
    by_cases e : j = cs.length
    · subst e; rw [getNew]
      intro e2
      have := h.lt i g' (by omega) hi
      have := cvlt g' e2
      omega
    · rw [getOld j (by omega)]
      exact h.pair i j g' hij (by omega) hi

theorem ownsRow_shape {w : World} {B : Nat} {e : TypeId} {size n : Nat} {v : Value} {xs : List Value} (h : w.ownsRow B e size v n xs) : ∃ a cap, v = .slice a n cap := by
  rcases h.2 with ⟨rfl, rfl⟩ | ⟨g, cap, cur, rfl, _⟩
  · exact ⟨none, 0, rfl⟩
  · exact ⟨_, _, rfl⟩
/-- the classes whose heads are from j on, d numbers on -/
def clssF (xs : List Int) : Nat → Int → List (List Int)
  | 0, _ => []
  | d + 1, j => if hd xs j = j then cls xs j :: clssF xs d (j + 1) else clssF xs d (j + 1)
def clss (xs : List Int) : List (List Int) := clssF xs xs.length 1

set_option maxHeartbeats 3200000 in
theorem classes_yes {w : World} {B b : Nat} {v : Value} {xs : List Int} (h : UfAt w B b v xs) (hw : Wf xs) :
    Calls Try.prog 19 #[.pointer (some ⟨b, 0, none⟩)] w (RowsPost (clss xs) w) := by
  obtain ⟨i0, hi, hz0, hz1, hz2⟩ := info_parts infoInts
  have hlen := hw.len
  go_enter Try.func19, Try.ntmps19
  go_wp2_with fail
  go_loopw [3, 4] (fun v3 v4 wr => ∃ (j : Nat) (acc : List (List Int)) (vals : List Value), 1 ≤ j ∧ j ≤ xs.length + 1 ∧ acc.length ≤ j - 1 ∧ v4 = .int .i64 j ∧ acc ++ clssF xs (xs.length + 1 - j) j = clss xs ∧ RowsAt wr w.heap.size v3 acc vals ∧ Below w.heap.size w wr) (fun _ v4 _ => xs.length + 1 - (intOf v4).toNat)
  case atStart => exact ⟨1, [], [], by omega, by omega, by simp, rfl, by simp [clss], ⟨rfl, World.ownsRow_nil _ _ _ _, fun k hk => by simp at hk, fun k g hk => by simp at hk, fun i j g h1 h2 => by simp at h2⟩, Below.refl _ _⟩
  case round =>
    obtain ⟨j, acc, vals, j1, j2, ha, rfl, hacc, hown, hbel⟩ := hrel
    have hu := h.below hbel
    have hvl := hown.len
    have HA := Lib.hid hacc; have HO := Lib.hid hown; have HB := Lib.hid hbel; have HVL := Lib.hid hvl; clear hacc hown hbel hvl
    by_cases hlt : j ≤ xs.length
    · have his := is_yes hu hw.len (j : Int) (by omega) (by omega)
      have hh := head_yes hu hw (j : Int) (by omega) (by omega)
      have hcl := class_yes hu hw (j : Int) (by omega) (by omega)
      have hstep : clssF xs (xs.length + 1 - j) j = if hd xs (j : Int) = (j : Int) then cls xs j :: clssF xs (xs.length + 1 - (j + 1)) ((j : Int) + 1) else clssF xs (xs.length + 1 - (j + 1)) ((j : Int) + 1) := by
        rw [show xs.length + 1 - j = (xs.length + 1 - (j + 1)) + 1 by omega]; rfl
      have HS := Lib.hid hstep; clear hstep
      obtain ⟨y, hy⟩ : ∃ y, hd xs (j : Int) = y := ⟨_, rfl⟩
      obtain ⟨c, hc⟩ : ∃ c, cls xs (j : Int) = c := ⟨_, rfl⟩
      rw [hy] at hh
      rw [hc] at hcl
      have HY := Lib.hid hy; have HC := Lib.hid hc; clear hy hc
      have HCL := Lib.hid hcl; clear hcl
      have hacl : vals.length = acc.length := HVL.out
      have hvb : vals.length ≤ 1000 := by omega
      clear hacl
      by_cases he : y = (j : Int)
      · have e2 : (y == (j : Int)) = true := by simp [he]
        have HE := Lib.hid he; clear he
        go_wp2_with (first | (go_at_call 27; refine his.mono ?_; rintro e w' ⟨rfl, rfl⟩) | (go_at_call 22; refine hh.mono ?_; rintro e w' ⟨rfl, rfl⟩) | (go_at_call 23; refine HCL.out.mono ?_; rintro e w1 ⟨cv, rfl, hcv, hcb⟩; obtain ⟨ca, cc, rfl⟩ := ownsRow_shape hcv; have HCV := Lib.hid hcv; have HCB := Lib.hid hcb; clear hcv hcb) | (at_builtin; refine wpList_append_lies _ rfl (.tmp 15) (.tmp 19) 42 rfl w.heap.size 35 i0 (.slice none 0 0) 1 24 Try.underlying42 hi hz0 hz1 hz2 rfl (by decide) _ vals.length vals (by simp [Act.eval, Act.put]) (((ownsRow_since HO.out HCB.out).alloc _)) ⟨w1.heap.size, 0, none⟩ 1 1 [.slice ca c.length cc] (by simp [Act.eval, Act.put]) rfl (World.news_of_block (cs := #[.slice ca c.length cc]) (heap_alloc_new w1 _)) (by intro u hu; simp at hu; subst hu; rfl) (by decide) (by unfold maxLen; omega) (by omega) (by have := HB.out.size; have := HCB.out.size; simp; omega) _ rfl ?_; intro g cn w2 ho hg hor hlt3; have HO2 := Lib.hid ho; have HG := Lib.hid hg; have HOR := Lib.hid hor; clear ho hg hor hlt3))
        go_roundw
        case rel =>
          have hor : u3.ownBlock = some g ∨ g = w1.heap.size + 1 := by simpa using HOR.out
          have hpush := RowsAt.push HO.out (by have := HB.out.size; omega) HCB.out HCV.out HG.out HO2.out hor
          refine ⟨j + 1, acc ++ [c], _, by omega, by omega, by simp; omega, by go_num, ?_, hpush, ?_⟩
          · rw [List.append_assoc, ← HA.out, HS.out, HY.out, if_pos HE.out, HC.out]
            have e5 : (((j + 1 : Nat) : Int)) = (j : Int) + 1 := by omega
            rw [e5]; rfl
          · have h0 := HB.out.size
            have h00 := HCB.out.size
            have h1 : Below w.heap.size w w1 := HB.out.trans (HCB.out.mono h0)
            exact (h1.alloc (by omega) _).grown HG.out (by simp; omega) (fun k hk => (HO.out.own.lt k hk).1)
        case measure => simp [intOf]; omega
      · have e2 : (y == (j : Int)) = false := by simp [he]
        have HE := Lib.hid he; clear he
        go_wp2_with (first | (go_at_call 27; refine his.mono ?_; rintro e w' ⟨rfl, rfl⟩) | (go_at_call 22; refine hh.mono ?_; rintro e w' ⟨rfl, rfl⟩))
        go_roundw
        case rel =>
          refine ⟨j + 1, acc, vals, by omega, by omega, by omega, by go_num, ?_, HO.out, HB.out⟩
          rw [← HA.out, HS.out, HY.out, if_neg HE.out]
          have e5 : (((j + 1 : Nat) : Int)) = (j : Int) + 1 := by omega
          rw [e5]
        case measure => simp [intOf]; omega
    · have his := is_no hu hw.len (j : Int) (by omega)
      have e0 : xs.length + 1 - j = 0 := by omega
      have E0 := Lib.hid e0; clear e0
      go_wp2_with (go_at_call 27; refine his.mono ?_; rintro e w' ⟨rfl, rfl⟩)
      go_ret
      refine ⟨_, vals, rfl, ?_, HB.out⟩
      have hA := HA.out
      rw [E0.out] at hA
      simp only [clssF, List.append_nil] at hA
      rw [← hA]
      exact HO.out
theorem classes_nil (w : World) : Calls Try.prog 19 #[.pointer none] w (Ret (.slice none 0 0) w) := by
  have his := is_nil w 1
  go_enter Try.func19, Try.ntmps19
  go_wp2_with fail
  refine wp_loop_rounds 1 ?_
  rw [rounds_succ]
  go_wp2_with (go_at_call 27; refine his.mono ?_; rintro e w' ⟨rfl, rfl⟩)
  go_ret
  exact ⟨rfl, rfl⟩
end Go.Proofs.Ytoiikbomdlnjlaa.Uf
