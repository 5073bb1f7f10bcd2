/- Proved: the first call of chapter 17's statements answers true; and the helper SameInts. -/
import Derived.Test.YtoiikbomdlnjlaaUf4
set_option linter.unusedVariables false
set_option linter.unusedSimpArgs false
namespace Go.Proofs.Ytoiikbomdlnjlaa.Uf
open Go.RowKit

theorem ints_built (w : World) (l : List Int) (hl : l.length ≤ 9223372036854775807) : IntsAt (w.alloc (.cells (l.map (Value.int .i64)).toArray 3)) (.slice (some ⟨w.heap.size, 0, none⟩) l.length l.length) l := by
  refine ⟨_, _, rfl, hl, fun h0 => ⟨w.heap.size, 0, rfl, fun j hj => ?_⟩⟩
  rw [World.cell?_alloc_at _ _ _ _ rfl]
  simp only [Nat.zero_add, List.getElem?_toArray, List.getElem?_map, List.getD_eq_getElem?_getD, List.getElem?_eq_getElem hj]
  rfl
theorem UfAt.alloc {w : World} {B b : Nat} {v : Value} {xs : List Int} (h : UfAt w B b v xs) (o : Obj) : UfAt (w.alloc o) B b v xs :=
  h.below ((Below.refl _ _).alloc (Nat.le_refl _) o)
theorem UfAt.notNew {w : World} {B b : Nat} {v : Value} {xs : List Int} (h : UfAt w B b v xs) (n c : Nat) : ∀ g, (Value.slice (some ⟨w.heap.size, 0, none⟩) n c).ownBlock = some g → v.ownBlock ≠ some g := by
  intro g hg e
  simp [Value.ownBlock] at hg
  have := (h.own.lt g e).2
  omega
theorem RetD.below {v : Value} {w w' : World} {B : Nat} {e : Ending} (h : RetD v w e w') : Below B w w' := by
  obtain ⟨-, n, rfl⟩ := h
  exact ⟨rfl, rfl, rfl, Nat.le_refl _, fun _ _ => rfl⟩
theorem wf5 : Wf [1, 2, 3, 4, 5] := ⟨by decide, by decide, by decide⟩
theorem wf5b : Wf [1, 2, 3, 2, 5] := ⟨by decide, by decide, by decide⟩
theorem wf5c : Wf [1, 2, 3, 2, 2] := ⟨by decide, by decide, by decide⟩
theorem rows_cell {w : World} {B : Nat} {v : Value} {cs : List (List Int)} {vals : List Value} (h : RowsAt w B v cs vals) (h0 : 0 < cs.length) :
    ∃ g cap, v = .slice (some ⟨g, 0, none⟩) cs.length cap ∧ (∀ k, k < cs.length → ∃ a c, w.cell? ⟨g, k, none⟩ = some (.slice a (cs.getD k []).length c) ∧ vals.getD k (.slice none 0 0) = .slice a (cs.getD k []).length c) := by
  have hl := h.len
  rcases h.own.2 with ⟨_, e⟩ | ⟨g, cap, cur, rfl, hb, hg, hle, hm, hs, ht⟩
  · omega
  · refine ⟨g, cap, by rw [hl], fun k hk => ?_⟩
    obtain ⟨a, c, hac⟩ := ownsRow_shape (h.row k hk)
    refine ⟨a, c, ?_, hac⟩
    have e : cur.toList[k]? = vals[k]? := by
      rw [← ht, List.getElem?_take, if_pos (by omega)]
    simp only [World.cell?, hg, Option.isSome_none, Bool.false_eq_true, if_false]
    rw [Array.getElem?_toList] at e
    rw [e, ← hac, List.getD_eq_getElem?_getD, List.getElem?_eq_getElem (by omega)]; rfl

set_option maxHeartbeats 3200000 in
theorem alive_any (w : World) : Calls Try.prog 16 #[] w fun e w' => e = .returned (.bool true) ∧ Below w.heap.size w w' := by
  have hnew : Calls Try.prog 17 #[.int .i64 5] w (NewPost [1, 2, 3, 4, 5] w) := new_yes w 5 (by omega)
  go_enter Try.func16, Try.ntmps16
  go_wp2_with fail
  refine hnew.mono ?_
  rintro e w1 ⟨b, v, rfl, hu1, hb1⟩
  have H1 := Lib.hid hu1; have B1 := Lib.hid hb1; clear hu1 hb1 hnew
  go_wp2_with fail
  have hj : Calls Try.prog 18 #[.pointer (some ⟨b, 0, none⟩), .slice (some ⟨w1.heap.size, 0, none⟩) 2 2] (w1.alloc (.cells #[.int .i64 4, .int .i64 2] 3)) (JoinPost w.heap.size b v [1, 2, 3, 2, 5] 1 _) :=
    join_yes (H1.out.alloc _) wf5 _ [4, 2] (ints_built w1 [4, 2] (by decide)) (fun _ => H1.out.notNew 2 2) (by decide) (by decide)
  refine hj.mono ?_
  rintro e w2 ⟨rfl, hu2, hb2, hz2, -⟩
  have H2 := Lib.hid hu2; have B2 := Lib.hid hb2; clear hu2 hb2 hz2 hj
  go_wp2_with fail
  have hj : Calls Try.prog 18 #[.pointer (some ⟨b, 0, none⟩), .slice (some ⟨w2.heap.size, 0, none⟩) 3 3] (w2.alloc (.cells #[.int .i64 5, .int .i64 4, .int .i64 2] 3)) (JoinPost w.heap.size b v [1, 2, 3, 2, 2] 1 _) :=
    join_yes (H2.out.alloc _) wf5b _ [5, 4, 2] (ints_built w2 [5, 4, 2] (by decide)) (fun _ => H2.out.notNew 3 3) (by decide) (by decide)
  refine hj.mono ?_
  rintro e w3 ⟨rfl, hu3, hb3, hz3, -⟩
  have H3 := Lib.hid hu3; have B3 := Lib.hid hb3; clear hu3 hb3 hz3 hj
  go_wp2_with fail
  have hc : Calls Try.prog 19 #[.pointer (some ⟨b, 0, none⟩)] w3 (RowsPost [[1], [2, 4, 5], [3]] w3) := by
    have := classes_yes H3.out wf5c
    rwa [show clss [1, 2, 3, 2, 2] = [[1], [2, 4, 5], [3]] by decide] at this
  refine hc.mono ?_
  rintro e w4 ⟨rv, vals, rfl, hr4, hb4⟩
  obtain ⟨g, cap, rfl, hcells⟩ := rows_cell hr4 (by decide)
  obtain ⟨ca, cc, hcell, -⟩ := hcells 1 (by decide)
  have H4 := Lib.hid (H3.out.below hb4); have B4 := Lib.hid hb4; clear hr4 hb4 hc hcells
  have hhead : Calls Try.prog 22 #[.pointer (some ⟨b, 0, none⟩), .int .i64 5] w4 (Ret (.int .i64 2) w4) := head_yes H4.out wf5c 5 (by decide) (by decide)
  go_wp2_with (go_at_call 22; refine hhead.mono ?_; rintro e w' ⟨rfl, rfl⟩)
  have hs : Calls Try.prog 21 #[.pointer (some ⟨b, 0, none⟩), .slice (some ⟨w4.heap.size, 0, none⟩) 3 3] (w4.alloc (.cells #[.int .i64 2, .int .i64 4, .int .i64 5] 3)) (RetD (.bool true) _) :=
    same_any (H4.out.alloc _) wf5c _ [2, 4, 5] (ints_built w4 [2, 4, 5] (by decide))
  refine hs.mono ?_
  rintro e w5 ⟨rfl, n, hw5⟩
  have H5 := Lib.hid ((H4.out.alloc (.cells #[.int .i64 2, .int .i64 4, .int .i64 5] 3)).drewN n)
  rw [← hw5] at H5
  have B5 := Lib.hid (((Below.refl _ w4).alloc (Nat.le_refl _) (.cells #[.int .i64 2, .int .i64 4, .int .i64 5] 3)).trans (RetD.below ⟨rfl, n, hw5⟩ (v := .bool true)))
  clear hs hw5
  go_wp2_with fail
  have hs : Calls Try.prog 21 #[.pointer (some ⟨b, 0, none⟩), .slice (some ⟨w5.heap.size, 0, none⟩) 2 2] (w5.alloc (.cells #[.int .i64 1, .int .i64 2] 3)) (RetD (.bool false) (w5.alloc (.cells #[.int .i64 1, .int .i64 2] 3))) :=
    same_any (H5.out.alloc _) wf5c _ [1, 2] (ints_built w5 [1, 2] (by decide))
  refine hs.mono ?_
  rintro e w6 ⟨rfl, m, hw6⟩
  have B6 := Lib.hid (((Below.refl _ w5).alloc (Nat.le_refl _) (.cells #[.int .i64 1, .int .i64 2] 3)).trans (RetD.below ⟨rfl, m, hw6⟩ (v := .bool true)))
  clear hs hw6
  go_wp2
  go_ret
  refine ⟨rfl, ?_⟩
  have s1 := B1.out.size
  have c2 : Below w.heap.size w w2 := B1.out.trans (((Below.refl _ w1).alloc s1 _).trans B2.out)
  have c3 : Below w.heap.size w w3 := c2.trans (((Below.refl _ w2).alloc c2.size _).trans B3.out)
  have c4 : Below w.heap.size w w4 := c3.trans (B4.out.mono c3.size)
  have c5 : Below w.heap.size w w5 := c4.trans (B5.out.mono c4.size)
  exact c5.trans (B6.out.mono c5.size)
end Go.Proofs.Ytoiikbomdlnjlaa.Uf
