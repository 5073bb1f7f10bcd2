/- Proved: the walk of the law UfHeads: a head is the least of its class, and the head of each in it; what is none has none. -/
import Derived.Test.YtoiikbomdlnjlaaUfJoins
import Derived.Test.YtoiikbomdlnjlaaWLast
set_option linter.unusedVariables false
set_option linter.unusedSimpArgs false
namespace Go.Proofs.Ytoiikbomdlnjlaa.Uf
open Go.RowKit Go.Deep Go.Proofs.YtoiikbomdlnjlaaW.PrintLast

/-- a list of lists of numbers that came in -/
def ArgRows (w : World) (v : Value) (ls : List (List Int)) : Prop :=
  ∃ a cap, v = .slice a ls.length cap ∧ ls.length ≤ 9223372036854775807 ∧ (0 < ls.length → ∃ g o, a = some ⟨g, o, none⟩ ∧ g < w.heap.size ∧ ∀ r, r < ls.length → ∃ ra rc, w.cell? ⟨g, o + r, none⟩ = some (.slice ra (ls.getD r []).length rc) ∧ ArgInts w (.slice ra (ls.getD r []).length rc) (ls.getD r []))
theorem ArgRows.open {H : Type} {enc : TypeId × Value → H} {w : World} {a : Option Addr} {len cap fuel : Nat} {x : DataW H × List MemPlace}
    (h : DataW.trod enc Try.prog w 0 (fun _ => true) true fuel 42 (Value.slice a len cap).cells.toList = some x) : ∃ ls, ArgRows w (.slice a len cap) ls := by
  rcases open_int_rows Try.underlying42 Try.underlying35 Try.underlying3 (by kernel_rfl) (by kernel_rfl) h with ⟨hcs, _⟩ | ⟨a0, len0, cap0, A, L, C, Z, hcs, _, hl, hm, _, hx⟩
  · simp [Value.cells] at hcs
    obtain ⟨rfl, rfl, rfl⟩ := hcs
    exact ⟨[], none, 0, rfl, by decide, fun h => by simp at h⟩
  · simp [Value.cells] at hcs
    obtain ⟨rfl, rfl, rfl⟩ := hcs
    have hlen : ((List.range len).map (fun r => (Z r).take (L r))).length = len := by simp
    refine ⟨(List.range len).map (fun r => (Z r).take (L r)), some a0, cap, by rw [hlen], by rw [hlen]; unfold maxLen at hm; omega, fun h0 => ?_⟩
    rw [hlen] at h0
    obtain ⟨b, off, spot⟩ := a0
    have hspot : spot = none := by simpa [Addr.add] using World.cell?_spot (hx 0 (by omega)).1
    subst hspot
    refine ⟨b, off, rfl, ?_, fun r hr => ?_⟩
    · have := (hx 0 (by omega)).1
      rw [Go.WideShapes.add_plain] at this
      exact World.block_lt_of_cell? w ⟨b, off + 0, none⟩ this
    · rw [hlen] at hr
      obtain ⟨hc, h1, h2, h3, h4, h5, h6⟩ := hx r (by omega)
      rw [Go.WideShapes.add_plain] at hc
      have hget : ((List.range len).map (fun r => (Z r).take (L r))).getD r [] = (Z r).take (L r) := by
        simp [List.getD_eq_getElem?_getD, hr]
      have hzl : ((Z r).take (L r)).length = L r := by simp; omega
      rw [hget, hzl]
      refine ⟨A r, C r, hc, ?_⟩
      cases hA : A r with
      | none =>
        have := h5 hA
        have hL : L r = 0 := by omega
        rw [hL, this, List.take_zero]
        exact ArgInts.nil w
      | some a' => exact ArgInts.of h1 h2 h3 (fun i hi => (h6 a' hA).2 i (by omega)) h4
theorem ArgInts.below {w w' : World} {v : Value} {l : List Int} {B : Nat} (h : ArgInts w v l) (hb : Below B w w') (hB : w.heap.size ≤ B) : ArgInts w' v l :=
  ⟨h.ints.same fun h0 g hg => hb.block g (by have := h.lt h0 g hg; omega), fun h0 g hg => by have := h.lt h0 g hg; have := hb.size; omega, h.wf⟩
theorem cls_mem_le {xs : List Int} (hw : Wf xs) {i : Int} (h1 : 1 ≤ i) (h2 : i ≤ xs.length) (j k : Nat) (hjk : j < k) (hk : k < (cls xs i).length) : (cls xs i).getD j 0 < (cls xs i).getD k 0 := by
  have := List.pairwise_iff_getElem.1 (cls_sorted hw h1 h2) j k (by omega) hk hjk
  simp only [List.getD_eq_getElem?_getD, List.getElem?_eq_getElem hk, List.getElem?_eq_getElem (show j < (cls xs i).length by omega)]
  exact this
theorem cls_same {xs : List Int} (hw : Wf xs) {i j : Int} (h1 : 1 ≤ i) (h2 : i ≤ xs.length) (k1 : 1 ≤ j) (k2 : j ≤ xs.length) (h : hd xs i = hd xs j) : cls xs i = cls xs j := by
  unfold cls; rw [h]
theorem sameB_cls {xs : List Int} (hw : Wf xs) {i : Int} (h1 : 1 ≤ i) (h2 : i ≤ xs.length) : sameB xs (cls xs i) = true := by
  have hr := hd_range hw _ i (Nat.le_refl _) h1 h2
  have e : cls xs i = cls xs (hd xs i) := cls_same hw h1 h2 hr.1 (by omega) (hd_hd hw h1 h2).symm
  rw [e]; exact sameB_all hw hr.1 (by omega)

theorem sameB_pair {xs : List Int} (hw : Wf xs) {i : Int} (i1 : 1 ≤ i) (i3 : i ≤ xs.length) : sameB xs [i, hd xs i] = true := by
  have hh := hd_range hw _ i (Nat.le_refl _) i1 i3
  unfold sameB
  rw [List.all_eq_true]
  intro x hx
  simp only [List.mem_cons, List.not_mem_nil, or_false] at hx
  simp only [okB, List.getD_cons_zero, Bool.and_eq_true, decide_eq_true_eq]
  rcases hx with rfl | rfl
  · exact ⟨⟨i1, i3⟩, rfl⟩
  · exact ⟨⟨hh.1, by omega⟩, hd_hd hw i1 i3⟩
theorem _root_.Go.RowKit.Below.drewB {B : Nat} {a w : World} (h : Below B a w) : Below B a w := h
theorem own_cells {w : World} {B : Nat} {v : Value} {xs : List Int} (h : w.ownsRow B 3 1 v xs.length (xs.map (Value.int .i64))) (h0 : 0 < xs.length) :
    ∃ g cap, v = .slice (some ⟨g, 0, none⟩) xs.length cap ∧ B ≤ g ∧ g < w.heap.size ∧ ∀ j, j < xs.length → w.cell? ⟨g, j, none⟩ = some (.int .i64 (xs.getD j 0)) := by
  obtain ⟨h1, h2⟩ := h
  rcases h2 with ⟨rfl, hn⟩ | ⟨g, cap, cur, rfl, hb, hg, hle, hmm, hs, ht⟩
  · omega
  · refine ⟨g, cap, rfl, hb, (Array.getElem?_eq_some_iff.1 hg).1, fun j hj => ?_⟩
    have e : cur.toList[j]? = (xs.map (Value.int .i64))[j]? := by
      rw [← ht, List.getElem?_take, if_pos (by omega)]
    simp only [World.cell?, hg, Option.isSome_none, Bool.false_eq_true, if_false]
    rw [Array.getElem?_toList] at e
    rw [e, List.getElem?_map, List.getD_eq_getElem?_getD, List.getElem?_eq_getElem hj]; rfl
set_option maxRecDepth 100000 in
set_option maxHeartbeats 25600000 in
theorem ufHeads_walk (w : World) (n : Int) (hn : -9223372036854775808 ≤ n ∧ n ≤ 9223372036854775807) (lv : Value) (l : List (List Int)) (hl : ArgRows w lv l) (i : Int) (hi : -9223372036854775808 ≤ i ∧ i ≤ 9223372036854775807) :
    Calls Try.prog 7 #[.int .i64 n, lv, .int .i64 i] w fun e w' => e = .returned (.bool true) ∧ Below w.heap.size w w' := by
  obtain ⟨hn1, hn2⟩ := hn
  clear hi
  obtain ⟨a, cap, rfl, hlm, hrows⟩ := hl
  have HROWS := Lib.hid hrows; clear hrows
  have HA := Lib.hid (alive_any w)
  by_cases hg : n < 0 ∨ (0 ≤ n ∧ 40 < n) ∨ (0 ≤ n ∧ n ≤ 40 ∧ 30 < (l.length : Int))
  · rcases hg with g1 | ⟨g1, g2⟩ | ⟨g1, g2, g3⟩
    all_goals
      go_enter Try.func7, Try.ntmps7
      go_wp2_with (go_at_call 16; refine HA.out.mono ?_; rintro e w' ⟨rfl, hb⟩)
      go_ret
      exact ⟨rfl, hb⟩
  · clear HA
    obtain ⟨k, rfl⟩ : ∃ k : Nat, n = (k : Int) := ⟨n.toNat, by omega⟩
    have g1 : (k : Int) ≤ 40 := by omega
    have g4 : (l.length : Int) ≤ 30 := by omega
    clear hg hn1 hn2
    have t0 : decide ((k : Int) < 0) = false := decide_eq_false (by omega)
    have t1 : decide (40 < (k : Int)) = false := decide_eq_false (by omega)
    have t4 : decide (30 < (l.length : Int)) = false := decide_eq_false (by omega)
    have hnew := new_yes w k (by omega)
    go_enter Try.func7, Try.ntmps7
    go_wp2_with fail
    refine hnew.mono ?_
    rintro e w1 ⟨b, v, rfl, hu1, hb1⟩
    have H1 := Lib.hid hu1; have B1 := Lib.hid hb1; clear hu1 hb1 hnew
    go_wp2_with fail
    go_loopw [9] (fun t9 wr => ∃ (j : Nat) (xs : List Int), j ≤ l.length ∧ t9 = .int .i64 j ∧ Wf xs ∧ xs.length = k ∧ UfAt wr w.heap.size b v xs ∧ Below w.heap.size w wr) (fun t9 _ => l.length - (intOf t9).toNat)
    case atStart => exact ⟨0, growTo [] k, by omega, rfl, growTo_wf wf_nil k (by simp) (by omega), growTo_len [] k (by simp), H1.out, B1.out⟩
    case round =>
      obtain ⟨j, xs, hj, rfl, hwf, hxs, hu, hb⟩ := hrel
      have HWF := Lib.hid hwf; have HXS := Lib.hid hxs; have HU := Lib.hid hu; have HB := Lib.hid hb; clear hwf hxs hu hb
      by_cases hlt : j < l.length
      · obtain ⟨g, o, rfl, hgl, hr⟩ := HROWS.out (by omega)
        obtain ⟨ra, rc, hc, hai⟩ := hr j hlt
        rw [← HB.out.cell (p := ⟨g, o + j, none⟩) hgl] at hc
        have hai2 := hai.below HB.out (Nat.le_refl _)
        obtain ⟨row, hrow⟩ : ∃ row, l.getD j [] = row := ⟨_, rfl⟩
        rw [hrow] at hc hai hai2
        clear hrow hr
        have HAI := Lib.hid (And.intro hai hai2); clear hai hai2
        by_cases hlen : 20 < row.length
        · have f1 : decide (20 < (row.length : Int)) = true := decide_eq_true (by omega)
          have HA := Lib.hid (alive_any wr)
          go_wp2_with (go_at_call 16; refine HA.out.mono ?_; rintro e w9 ⟨rfl, hb9⟩; have HB9 := Lib.hid hb9; clear hb9)
          go_ret
          exact ⟨rfl, HB.out.trans (HB9.out.mono HB.out.size)⟩
        · have f1 : decide (20 < (row.length : Int)) = false := decide_eq_false (by omega)
          have hj := join_any HU.out HWF.out _ row HAI.out.2.ints (fun h0 g hg e => by have := HAI.out.1.lt h0 g hg; have := (HU.out.own.lt g e).1; omega) (by omega)
          rw [HXS.out] at hj
          have HJ := Lib.hid hj; clear hj
          go_wp2_with (go_at_call 18; refine HJ.out.mono ?_; rintro e w9 ⟨x, y, ys, rfl, hwf9, hys9, hu9, hb9, hs9, hf9⟩; have H9 := Lib.hid (And.intro hwf9 (And.intro hys9 (And.intro hu9 hb9))); clear hwf9 hys9 hu9 hb9 hs9 hf9)
          go_roundw
          case rel => exact ⟨j + 1, ys, by omega, by go_num, H9.out.1, H9.out.2.1, H9.out.2.2.1, HB.out.trans H9.out.2.2.2⟩
          case measure => simp [intOf]; omega
      · obtain rfl : j = l.length := by omega
        clear hlt
        by_cases hi : 1 ≤ i ∧ i ≤ (k : Int)
        ·
          obtain ⟨i1, i2⟩ := hi
          have i3 : i ≤ (xs.length : Int) := by rw [HXS.out]; exact i2
          have hcl := class_yes HU.out HWF.out i i1 i3
          have hh := hd_range HWF.out _ i (Nat.le_refl _) i1 i3
          obtain ⟨tl, htl⟩ := cls_head HWF.out i1 i3
          have hc0 : (cls xs i).getD 0 0 = hd xs i := by rw [htl]; rfl
          have hcn : 0 < (cls xs i).length := by rw [htl]; simp
          have hcm := cls_len xs i
          have hsm1 := sameB_cls HWF.out i1 i3
          have hsm2 : sameB xs [i, hd xs i] = true := sameB_pair HWF.out i1 i3
          have hhead := fun (W : World) (hW : UfAt W w.heap.size b v xs) => head_yes hW HWF.out i i1 i3
          have hmem := fun (q : Nat) (hq : q < (cls xs i).length) => cls_get HWF.out i1 i3 q hq
          have hord := fun (p q : Nat) (hpq : p < q) (hq : q < (cls xs i).length) => cls_mem_le HWF.out i1 i3 p q hpq hq
          have hcs := fun (y : Int) (y1 : 1 ≤ y) (y2 : y ≤ (xs.length : Int)) (e : hd xs y = hd xs i) => cls_same HWF.out y1 y2 i1 i3 e
          rw [HXS.out] at hcm
          obtain ⟨h, hhe⟩ : ∃ h, hd xs i = h := ⟨_, rfl⟩
          obtain ⟨c, hce⟩ : ∃ c, cls xs i = c := ⟨_, rfl⟩
          rw [hhe] at hh hc0 hsm2
          rw [hce] at hcl hc0 hcn hcm hsm1 hmem hord hcs
          simp only [hhe] at hhead hmem hcs
          have HM := Lib.hid (And.intro hmem (And.intro hord (And.intro hcs (And.intro hc0 (And.intro hsm1 hsm2))))) 
          have HH := Lib.hid hhead
          have HCL := Lib.hid hcl
          have hc41 : c.length ≤ 41 := by omega
          clear hmem hord hcs hc0 hsm1 hsm2 hhead hcl htl hhe hce hcm hh
          have d1 : decide (i < 1) = false := decide_eq_false (by omega)
          have d2 : decide ((k : Int) < i) = false := decide_eq_false (by omega)
          have d3 : ((c.length : Int) == 0) = false := beq_eq_false_iff_ne.2 (by omega)
          have d4 : (h != h) = false := by simp
          go_wp2_with (first | (go_at_call 23; refine HCL.out.mono ?_; rintro e w9 ⟨cv, rfl, hcv, hb9⟩; obtain ⟨cg, cc, hcs, hcg1, hcg2, hcells⟩ := own_cells hcv hcn; subst hcs; have hc00 := hcells 0 hcn; rw [HM.out.2.2.2.1] at hc00; have HCELLS := Lib.hid hcells; have HCV := Lib.hid hcv; have HB9 := Lib.hid hb9; have HU9 := Lib.hid (HU.out.below hb9); clear hcv hb9 hcells) | (go_at_call 22; refine (HH.out _ HU9.out).mono ?_; rintro e w' ⟨rfl, rfl⟩))
          have hi9 : IntsAt w9 (.slice (some ⟨cg, 0, none⟩) c.length cc) c := ownsRow_ints HCV.out (by omega)
          have hs1 := same_any HU9.out HWF.out _ c hi9
          rw [HM.out.2.2.2.2.1] at hs1
          have HS1 := Lib.hid hs1
          have HI9 := Lib.hid hi9
          clear hs1 hi9
          refine HS1.out.mono ?_
          rintro e w10 ⟨rfl, n10, hw10⟩
          have h910 : Below w9.heap.size w9 w10 := by rw [hw10]; exact ⟨rfl, rfl, rfl, Nat.le_refl _, fun _ _ => rfl⟩
          have HB10 := Lib.hid h910
          have HU10 := Lib.hid (HU9.out.below h910)
          clear h910 hw10 hc00
          go_wp2_with fail
          have hs2 := same_any (HU10.out.alloc (.cells #[.int .i64 i, .int .i64 h] 3)) HWF.out _ [i, h] (ints_built w10 [i, h] (by simp))
          rw [HM.out.2.2.2.2.2] at hs2
          refine hs2.mono ?_
          rintro e w11 ⟨rfl, n11, hw11⟩
          have h911 : Below w9.heap.size w9 w11 := by rw [hw11]; exact ((HB10.out.alloc HB10.out.size _)).trans ⟨rfl, rfl, rfl, Nat.le_refl _, fun _ _ => rfl⟩
          have HB11 := Lib.hid h911
          have HU11 := Lib.hid (HU9.out.below h911)
          have HI11 := Lib.hid (HI9.out.below h911 (fun _ g hg => by simp only [Value.ownBlock, Option.some.injEq] at hg; omega))
          have hcells11 : ∀ j, j < c.length → w11.cell? ⟨cg, j, none⟩ = some (.int .i64 (c.getD j 0)) := fun j hj => (h911.cell (p := ⟨cg, j, none⟩) hcg2).trans (HCELLS.out j hj)
          have HC11 := Lib.hid hcells11
          have hlt11 : cg < w11.heap.size := by have := h911.size; omega
          clear h911 hw11 hs2 hcells11
          go_wp2_with fail
          go_loopw [12] (fun t12 wr => ∃ q : Nat, q ≤ c.length ∧ t12 = .int .i64 q ∧ Below w11.heap.size w11 wr) (fun t12 _ => c.length - (intOf t12).toNat)
          case atStart => exact ⟨0, by omega, rfl, Below.refl _ _⟩
          case round =>
            obtain ⟨q, hq, rfl, hbq⟩ := hrel
            have HBQ := Lib.hid hbq; clear hbq
            by_cases hltq : q < c.length
            · have hmq := HM.out.1 q hltq
              have hcq := HC11.out q hltq
              obtain ⟨y, hy⟩ : ∃ y, c.getD q 0 = y := ⟨_, rfl⟩
              rw [hy] at hmq hcq
              obtain ⟨y1, y2, y3⟩ := hmq
              have hcy : cls xs y = c := HM.out.2.2.1 y y1 y2 y3
              have hclass : ∀ W, Below w11.heap.size w11 W → Calls Try.prog 23 #[.pointer (some ⟨b, 0, none⟩), .int .i64 y] W (ListPost c W) := by
                intro W hW
                have := class_yes (HU11.out.below hW) HWF.out y y1 y2
                rwa [hcy] at this
              have hhd : ∀ W, Below w11.heap.size w11 W → Calls Try.prog 22 #[.pointer (some ⟨b, 0, none⟩), .int .i64 y] W (Ret (.int .i64 h) W) := by
                intro W hW
                have := head_yes (HU11.out.below hW) HWF.out y y1 y2
                rwa [y3] at this
              have hsame : ∀ W cv, Below w11.heap.size w11 W → IntsAt W cv c → Calls Try.prog 20 #[cv, .slice (some ⟨cg, 0, none⟩) c.length cc] W (RetD (.bool true) W) := by
                intro W cv hW h1
                have := sameInts_any W cv _ c c h1 (HI11.out.below hW (fun _ g hg => by simp only [Value.ownBlock, Option.some.injEq] at hg; omega))
                rwa [show sameL c c = true from decide_eq_true rfl] at this
              have HCLS := Lib.hid hclass; have HHD := Lib.hid hhd; have HSAME := Lib.hid hsame
              have hcq' : wr.cell? ⟨cg, q, none⟩ = some (.int .i64 y) := (HBQ.out.cell (p := ⟨cg, q, none⟩) hlt11).trans hcq
              have f0 : (q : Int) < (c.length : Int) := by omega
              have HQL := Lib.hid hltq
              have HYQ := Lib.hid hy
              clear hclass hhd hsame hcq hy y1 y2 y3 hcy
              by_cases hq0 : q = 0
              · have f1 : decide (0 < (q : Int)) = false := decide_eq_false (by omega)
                have f2 : decide (0 < q) = false := decide_eq_false (by omega)
                have HQ0 := Lib.hid hq0
                clear hq0
                have d4' : (h != h) = false := by simp
                have d5 : decide ((0 : Int) < (q : Int)) = false := f1
                have hlt7 : ∀ W : World, Below w11.heap.size w11 W → cg < W.heap.size := fun W h => by have := h.size; omega
                have HLT7 := Lib.hid hlt7
                go_wp2_with fail
                refine start_ (n := 35) (S := fun w' => w'.cell? ⟨cg, q, none⟩ = some (.int .i64 y) ∧ Below w11.heap.size w11 w') (ds := []) #[false, false, false, false, false, false, false, false, false, false, false, false, false, false, false, false, false, false, false, false, false, false, false, false, false, false, false, false, false, false, false, false, false, false, false] (by kernel_rfl) rfl rfl ⟨hcq', HBQ.out.drew⟩ (fun hHeld => ?_)
                refine pure_ (i := 0) (N := some 111) (v := ?_) (a' := ?_) #[true, false, false, false, false, false, false, false, false, false, false, false, false, false, false, false, false, false, false, false, false, false, false, false, false, false, false, false, false, false, false, false, false, false, false] rfl rfl (by kernel_rfl) (fun _ _ _ h => h) (Or.inl ⟨by rfl, ?_⟩) ?_ ?_
                rotate_left
                · intro w'
                  go_simp
                  with_reducible rfl
                rotate_left
                · simp only [Act.put, List.setIfInBounds_toArray, List.set_cons_zero, List.set_cons_succ, i64_w, i32_w]
                  rfl
                refine pure_ (i := 1) (N := some 112) (v := ?_) (a' := ?_) #[true, true, false, false, false, false, false, false, false, false, false, false, false, false, false, false, false, false, false, false, false, false, false, false, false, false, false, false, false, false, false, false, false, false, false] rfl rfl (by kernel_rfl) (fun _ _ _ h => h) (Or.inl ⟨by rfl, ?_⟩) ?_ ?_
                rotate_left
                · intro w'
                  go_simp
                  with_reducible rfl
                rotate_left
                · simp only [Act.put, List.setIfInBounds_toArray, List.set_cons_zero, List.set_cons_succ, i64_w, i32_w]
                  rfl
                refine pure_ (i := 2) (N := some 113) (v := ?_) (a' := ?_) #[true, true, true, false, false, false, false, false, false, false, false, false, false, false, false, false, false, false, false, false, false, false, false, false, false, false, false, false, false, false, false, false, false, false, false] rfl rfl (by kernel_rfl) (fun _ _ _ h => h) (Or.inl ⟨by rfl, ?_⟩) ?_ ?_
                rotate_left
                · intro w'
                  go_simp
                  with_reducible rfl
                rotate_left
                · simp only [Act.put, List.setIfInBounds_toArray, List.set_cons_zero, List.set_cons_succ, i64_w, i32_w]
                  rfl
                refine pure_ (i := 3) (N := some 114) (v := ?_) (a' := ?_) #[true, true, true, true, false, false, false, false, false, false, false, false, false, false, false, false, false, false, false, false, false, false, false, false, false, false, false, false, false, false, false, false, false, false, false] rfl rfl (by kernel_rfl) (fun _ _ _ h => h) (Or.inl ⟨by rfl, ?_⟩) ?_ ?_
                rotate_left
                · intro w'
                  go_simp
                  with_reducible rfl
                rotate_left
                · simp only [Act.put, List.setIfInBounds_toArray, List.set_cons_zero, List.set_cons_succ, i64_w, i32_w]
                  rfl
                refine pure_ (i := 6) (N := some 117) (v := ?_) (a' := ?_) #[true, true, true, true, false, false, true, false, false, false, false, false, false, false, false, false, false, false, false, false, false, false, false, false, false, false, false, false, false, false, false, false, false, false, false] rfl rfl (by kernel_rfl) (fun _ _ _ h => h) (Or.inl ⟨by rfl, ?_⟩) ?_ ?_
                rotate_left
                · intro w'
                  go_simp
                  with_reducible rfl
                rotate_left
                · simp only [Act.put, List.setIfInBounds_toArray, List.set_cons_zero, List.set_cons_succ, i64_w, i32_w]
                  rfl
                refine take_ (i := 4) (N := some 115) (v := ?_) (a' := ?_) #[true, true, true, true, true, false, true, false, false, false, false, false, false, false, false, false, false, false, false, false, false, false, false, false, false, false, false, false, false, false, false, false, false, false, false] rfl rfl (by kernel_rfl) (fun _ _ _ h => h) (Or.inl ⟨by rfl, ?_⟩) hHeld ?_ ?_
                rotate_left
                · rintro w' ⟨s0, s1⟩
                  go_simp
                  with_reducible rfl
                rotate_left
                · simp only [Act.put, List.setIfInBounds_toArray, List.set_cons_zero, List.set_cons_succ, i64_w, i32_w]
                  rfl
                refine one_ (i := 5) (N := some 116) #[true, true, true, true, true, true, true, false, false, false, false, false, false, false, false, false, false, false, false, false, false, false, false, false, false, false, false, false, false, false, false, false, false, false, false] rfl rfl (by kernel_rfl) (by decide) (fun K hK => ?_)
                refine goes_ Try.func22 (by kernel_rfl) rfl #[.pointer (some ⟨b, 0, none⟩), .int .i64 y] (by rfl) rfl rfl (by simp only [List.map_toArray, List.map_cons, List.map_nil]; rfl) ?_
                with_reducible refine (HHD.out _ (hHeld.2)).mono ?_
                rintro e w3 ⟨rfl, rfl⟩
                refine ⟨_, rfl, ?_⟩
                refine hK.out _ _ ⟨hHeld.1, hHeld.2⟩ (fun hHeld => ?_)
                clear hK K
                refine norm_ (a' := ?_) ?_ ?_
                rotate_left
                · show Act.put _ (some 116) _ = _
                  simp only [Act.put, List.setIfInBounds_toArray, List.set_cons_zero, List.set_cons_succ, i64_w, i32_w]
                  rfl
                refine pure_ (i := 7) (N := some 118) (v := ?_) (a' := ?_) #[true, true, true, true, true, true, true, true, false, false, false, false, false, false, false, false, false, false, false, false, false, false, false, false, false, false, false, false, false, false, false, false, false, false, false] rfl rfl (by kernel_rfl) (fun _ _ _ h => h) (Or.inl ⟨by rfl, ?_⟩) ?_ ?_
                rotate_left
                · intro w'
                  go_simp
                  with_reducible rfl
                rotate_left
                · simp only [Act.put, List.setIfInBounds_toArray, List.set_cons_zero, List.set_cons_succ, i64_w, i32_w]
                  rfl
                refine pure_ (i := 8) (N := some 119) (v := ?_) (a' := ?_) #[true, true, true, true, true, true, true, true, true, false, false, false, false, false, false, false, false, false, false, false, false, false, false, false, false, false, false, false, false, false, false, false, false, false, false] rfl rfl (by kernel_rfl) (fun _ _ _ h => h) (Or.inl ⟨by rfl, ?_⟩) ?_ ?_
                rotate_left
                · intro w'
                  go_simp
                  with_reducible rfl
                rotate_left
                · simp only [Act.put, List.setIfInBounds_toArray, List.set_cons_zero, List.set_cons_succ, i64_w, i32_w]
                  rfl
                refine pure_ (i := 9) (N := some 120) (v := ?_) (a' := ?_) #[true, true, true, true, true, true, true, true, true, true, false, false, false, false, false, false, false, false, false, false, false, false, false, false, false, false, false, false, false, false, false, false, false, false, false] rfl rfl (by kernel_rfl) (fun _ _ _ h => h) (Or.inl ⟨by rfl, ?_⟩) ?_ ?_
                rotate_left
                · intro w'
                  go_simp
                  with_reducible rfl
                rotate_left
                · simp only [Act.put, List.setIfInBounds_toArray, List.set_cons_zero, List.set_cons_succ, i64_w, i32_w]
                  rfl
                refine pure_ (i := 10) (N := some 121) (v := ?_) (a' := ?_) #[true, true, true, true, true, true, true, true, true, true, true, false, false, false, false, false, false, false, false, false, false, false, false, false, false, false, false, false, false, false, false, false, false, false, false] rfl rfl (by kernel_rfl) (fun _ _ _ h => h) (Or.inl ⟨by rfl, ?_⟩) ?_ ?_
                rotate_left
                · intro w'
                  go_simp
                  with_reducible rfl
                rotate_left
                · simp only [Act.put, List.setIfInBounds_toArray, List.set_cons_zero, List.set_cons_succ, i64_w, i32_w]
                  rfl
                refine pure_ (i := 11) (N := some 122) (v := ?_) (a' := ?_) #[true, true, true, true, true, true, true, true, true, true, true, true, false, false, false, false, false, false, false, false, false, false, false, false, false, false, false, false, false, false, false, false, false, false, false] rfl rfl (by kernel_rfl) (fun _ _ _ h => h) (Or.inl ⟨by rfl, ?_⟩) ?_ ?_
                rotate_left
                · intro w'
                  go_simp
                  with_reducible rfl
                rotate_left
                · simp only [Act.put, List.setIfInBounds_toArray, List.set_cons_zero, List.set_cons_succ, i64_w, i32_w]
                  rfl
                refine pure_ (i := 12) (N := some 123) (v := undef) (a' := ?_) #[true, true, true, true, true, true, true, true, true, true, true, true, true, false, false, false, false, false, false, false, false, false, false, false, false, false, false, false, false, false, false, false, false, false, false] rfl rfl (by kernel_rfl) (fun _ _ _ h => h) (Or.inr ⟨by rfl, rfl⟩) ?_ ?_
                rotate_left
                · simp only [Act.put, List.setIfInBounds_toArray, List.set_cons_zero, List.set_cons_succ, i64_w, i32_w]
                  rfl
                refine pure_ (i := 13) (N := some 124) (v := undef) (a' := ?_) #[true, true, true, true, true, true, true, true, true, true, true, true, true, true, false, false, false, false, false, false, false, false, false, false, false, false, false, false, false, false, false, false, false, false, false] rfl rfl (by kernel_rfl) (fun _ _ _ h => h) (Or.inr ⟨by rfl, rfl⟩) ?_ ?_
                rotate_left
                · simp only [Act.put, List.setIfInBounds_toArray, List.set_cons_zero, List.set_cons_succ, i64_w, i32_w]
                  rfl
                refine pure_ (i := 14) (N := some 125) (v := undef) (a' := ?_) #[true, true, true, true, true, true, true, true, true, true, true, true, true, true, true, false, false, false, false, false, false, false, false, false, false, false, false, false, false, false, false, false, false, false, false] rfl rfl (by kernel_rfl) (fun _ _ _ h => h) (Or.inr ⟨by rfl, rfl⟩) ?_ ?_
                rotate_left
                · simp only [Act.put, List.setIfInBounds_toArray, List.set_cons_zero, List.set_cons_succ, i64_w, i32_w]
                  rfl
                refine pure_ (i := 15) (N := some 126) (v := undef) (a' := ?_) #[true, true, true, true, true, true, true, true, true, true, true, true, true, true, true, true, false, false, false, false, false, false, false, false, false, false, false, false, false, false, false, false, false, false, false] rfl rfl (by kernel_rfl) (fun _ _ _ h => h) (Or.inr ⟨by rfl, rfl⟩) ?_ ?_
                rotate_left
                · simp only [Act.put, List.setIfInBounds_toArray, List.set_cons_zero, List.set_cons_succ, i64_w, i32_w]
                  rfl
                refine pure_ (i := 16) (N := some 127) (v := undef) (a' := ?_) #[true, true, true, true, true, true, true, true, true, true, true, true, true, true, true, true, true, false, false, false, false, false, false, false, false, false, false, false, false, false, false, false, false, false, false] rfl rfl (by kernel_rfl) (fun _ _ _ h => h) (Or.inr ⟨by rfl, rfl⟩) ?_ ?_
                rotate_left
                · simp only [Act.put, List.setIfInBounds_toArray, List.set_cons_zero, List.set_cons_succ, i64_w, i32_w]
                  rfl
                refine pure_ (i := 17) (N := some 128) (v := undef) (a' := ?_) #[true, true, true, true, true, true, true, true, true, true, true, true, true, true, true, true, true, true, false, false, false, false, false, false, false, false, false, false, false, false, false, false, false, false, false] rfl rfl (by kernel_rfl) (fun _ _ _ h => h) (Or.inr ⟨by rfl, rfl⟩) ?_ ?_
                rotate_left
                · simp only [Act.put, List.setIfInBounds_toArray, List.set_cons_zero, List.set_cons_succ, i64_w, i32_w]
                  rfl
                refine pure_ (i := 18) (N := some 129) (v := undef) (a' := ?_) #[true, true, true, true, true, true, true, true, true, true, true, true, true, true, true, true, true, true, true, false, false, false, false, false, false, false, false, false, false, false, false, false, false, false, false] rfl rfl (by kernel_rfl) (fun _ _ _ h => h) (Or.inr ⟨by rfl, rfl⟩) ?_ ?_
                rotate_left
                · simp only [Act.put, List.setIfInBounds_toArray, List.set_cons_zero, List.set_cons_succ, i64_w, i32_w]
                  rfl
                refine pure_ (i := 19) (N := some 130) (v := undef) (a' := ?_) #[true, true, true, true, true, true, true, true, true, true, true, true, true, true, true, true, true, true, true, true, false, false, false, false, false, false, false, false, false, false, false, false, false, false, false] rfl rfl (by kernel_rfl) (fun _ _ _ h => h) (Or.inr ⟨by rfl, rfl⟩) ?_ ?_
                rotate_left
                · simp only [Act.put, List.setIfInBounds_toArray, List.set_cons_zero, List.set_cons_succ, i64_w, i32_w]
                  rfl
                refine pure_ (i := 20) (N := some 131) (v := undef) (a' := ?_) #[true, true, true, true, true, true, true, true, true, true, true, true, true, true, true, true, true, true, true, true, true, false, false, false, false, false, false, false, false, false, false, false, false, false, false] rfl rfl (by kernel_rfl) (fun _ _ _ h => h) (Or.inr ⟨by rfl, rfl⟩) ?_ ?_
                rotate_left
                · simp only [Act.put, List.setIfInBounds_toArray, List.set_cons_zero, List.set_cons_succ, i64_w, i32_w]
                  rfl
                refine pure_ (i := 21) (N := some 132) (v := undef) (a' := ?_) #[true, true, true, true, true, true, true, true, true, true, true, true, true, true, true, true, true, true, true, true, true, true, false, false, false, false, false, false, false, false, false, false, false, false, false] rfl rfl (by kernel_rfl) (fun _ _ _ h => h) (Or.inr ⟨by rfl, rfl⟩) ?_ ?_
                rotate_left
                · simp only [Act.put, List.setIfInBounds_toArray, List.set_cons_zero, List.set_cons_succ, i64_w, i32_w]
                  rfl
                refine pure_ (i := 22) (N := some 133) (v := ?_) (a' := ?_) #[true, true, true, true, true, true, true, true, true, true, true, true, true, true, true, true, true, true, true, true, true, true, true, false, false, false, false, false, false, false, false, false, false, false, false] rfl rfl (by kernel_rfl) (fun _ _ _ h => h) (Or.inl ⟨by rfl, ?_⟩) ?_ ?_
                rotate_left
                · intro w'
                  go_simp
                  with_reducible rfl
                rotate_left
                · simp only [Act.put, List.setIfInBounds_toArray, List.set_cons_zero, List.set_cons_succ, i64_w, i32_w]
                  rfl
                refine pure_ (i := 23) (N := some 134) (v := ?_) (a' := ?_) #[true, true, true, true, true, true, true, true, true, true, true, true, true, true, true, true, true, true, true, true, true, true, true, true, false, false, false, false, false, false, false, false, false, false, false] rfl rfl (by kernel_rfl) (fun _ _ _ h => h) (Or.inl ⟨by rfl, ?_⟩) ?_ ?_
                rotate_left
                · intro w'
                  go_simp
                  with_reducible rfl
                rotate_left
                · simp only [Act.put, List.setIfInBounds_toArray, List.set_cons_zero, List.set_cons_succ, i64_w, i32_w]
                  rfl
                refine pure_ (i := 24) (N := some 135) (v := ?_) (a' := ?_) #[true, true, true, true, true, true, true, true, true, true, true, true, true, true, true, true, true, true, true, true, true, true, true, true, true, false, false, false, false, false, false, false, false, false, false] rfl rfl (by kernel_rfl) (fun _ _ _ h => h) (Or.inl ⟨by rfl, ?_⟩) ?_ ?_
                rotate_left
                · intro w'
                  go_simp
                  with_reducible rfl
                rotate_left
                · simp only [Act.put, List.setIfInBounds_toArray, List.set_cons_zero, List.set_cons_succ, i64_w, i32_w]
                  rfl
                refine pure_ (i := 25) (N := some 136) (v := ?_) (a' := ?_) #[true, true, true, true, true, true, true, true, true, true, true, true, true, true, true, true, true, true, true, true, true, true, true, true, true, true, false, false, false, false, false, false, false, false, false] rfl rfl (by kernel_rfl) (fun _ _ _ h => h) (Or.inl ⟨by rfl, ?_⟩) ?_ ?_
                rotate_left
                · intro w'
                  go_simp
                  with_reducible rfl
                rotate_left
                · simp only [Act.put, List.setIfInBounds_toArray, List.set_cons_zero, List.set_cons_succ, i64_w, i32_w]
                  rfl
                refine pure_ (i := 26) (N := some 137) (v := ?_) (a' := ?_) #[true, true, true, true, true, true, true, true, true, true, true, true, true, true, true, true, true, true, true, true, true, true, true, true, true, true, true, false, false, false, false, false, false, false, false] rfl rfl (by kernel_rfl) (fun _ _ _ h => h) (Or.inl ⟨by rfl, ?_⟩) ?_ ?_
                rotate_left
                · intro w'
                  go_simp
                  with_reducible rfl
                rotate_left
                · simp only [Act.put, List.setIfInBounds_toArray, List.set_cons_zero, List.set_cons_succ, i64_w, i32_w]
                  rfl
                refine pure_ (i := 27) (N := some 138) (v := ?_) (a' := ?_) #[true, true, true, true, true, true, true, true, true, true, true, true, true, true, true, true, true, true, true, true, true, true, true, true, true, true, true, true, false, false, false, false, false, false, false] rfl rfl (by kernel_rfl) (fun _ _ _ h => h) (Or.inl ⟨by rfl, ?_⟩) ?_ ?_
                rotate_left
                · intro w'
                  go_simp
                  with_reducible rfl
                rotate_left
                · simp only [Act.put, List.setIfInBounds_toArray, List.set_cons_zero, List.set_cons_succ, i64_w, i32_w]
                  rfl
                refine pure_ (i := 28) (N := some 139) (v := ?_) (a' := ?_) #[true, true, true, true, true, true, true, true, true, true, true, true, true, true, true, true, true, true, true, true, true, true, true, true, true, true, true, true, true, false, false, false, false, false, false] rfl rfl (by kernel_rfl) (fun _ _ _ h => h) (Or.inl ⟨by rfl, ?_⟩) ?_ ?_
                rotate_left
                · intro w'
                  go_simp
                  with_reducible rfl
                rotate_left
                · simp only [Act.put, List.setIfInBounds_toArray, List.set_cons_zero, List.set_cons_succ, i64_w, i32_w]
                  rfl
                refine pure_ (i := 31) (N := some 142) (v := ?_) (a' := ?_) #[true, true, true, true, true, true, true, true, true, true, true, true, true, true, true, true, true, true, true, true, true, true, true, true, true, true, true, true, true, false, false, true, false, false, false] rfl rfl (by kernel_rfl) (fun _ _ _ h => h) (Or.inl ⟨by rfl, ?_⟩) ?_ ?_
                rotate_left
                · intro w'
                  go_simp
                  with_reducible rfl
                rotate_left
                · simp only [Act.put, List.setIfInBounds_toArray, List.set_cons_zero, List.set_cons_succ, i64_w, i32_w]
                  rfl
                refine take_ (i := 29) (N := some 140) (v := ?_) (a' := ?_) #[true, true, true, true, true, true, true, true, true, true, true, true, true, true, true, true, true, true, true, true, true, true, true, true, true, true, true, true, true, true, false, true, false, false, false] rfl rfl (by kernel_rfl) (fun _ _ _ h => h) (Or.inl ⟨by rfl, ?_⟩) hHeld ?_ ?_
                rotate_left
                · rintro w' ⟨s0, s1⟩
                  go_simp
                  with_reducible rfl
                rotate_left
                · simp only [Act.put, List.setIfInBounds_toArray, List.set_cons_zero, List.set_cons_succ, i64_w, i32_w]
                  rfl
                refine one_ (i := 30) (N := some 141) #[true, true, true, true, true, true, true, true, true, true, true, true, true, true, true, true, true, true, true, true, true, true, true, true, true, true, true, true, true, true, true, true, false, false, false] rfl rfl (by kernel_rfl) (by decide) (fun K hK => ?_)
                refine goes_ Try.func23 (by kernel_rfl) rfl #[.pointer (some ⟨b, 0, none⟩), .int .i64 y] (by rfl) rfl rfl (by simp only [List.map_toArray, List.map_cons, List.map_nil]; rfl) ?_
                with_reducible refine (HCLS.out _ (hHeld.2)).mono ?_
                rintro e w7 ⟨cv, rfl, hcv7, hb7⟩
                obtain ⟨ca7, cc7, hcs7⟩ := ownsRow_shape hcv7
                subst hcs7
                refine ⟨_, rfl, ?_⟩
                have HCV7 := Lib.hid hcv7
                refine hK.out _ _ ⟨(hb7.cell (p := ⟨cg, q, none⟩) (hlt7 _ hHeld.2)).trans hHeld.1, hHeld.2.trans (hb7.mono (hHeld.2.size))⟩ (fun hHeld => ?_)
                clear hK K
                refine norm_ (a' := ?_) ?_ ?_
                rotate_left
                · show Act.put _ (some 141) _ = _
                  simp only [Act.put, List.setIfInBounds_toArray, List.set_cons_zero, List.set_cons_succ, i64_w, i32_w]
                  rfl
                refine one_ (i := 32) (N := some 143) #[true, true, true, true, true, true, true, true, true, true, true, true, true, true, true, true, true, true, true, true, true, true, true, true, true, true, true, true, true, true, true, true, true, false, false] rfl rfl (by kernel_rfl) (by decide) (fun K hK => ?_)
                refine goes_ Try.func20 (by kernel_rfl) rfl #[.slice ca7 c.length cc7, .slice (some ⟨cg, 0, none⟩) c.length cc] (by rfl) rfl rfl (by simp only [List.map_toArray, List.map_cons, List.map_nil]; rfl) ?_
                with_reducible refine (HSAME.out _ _ (hHeld.2) (ownsRow_ints HCV7.out (by omega))).mono ?_
                rintro e w30 ⟨rfl, nn, hw30⟩
                refine ⟨_, rfl, ?_⟩
                have HBEND := Lib.hid (show Below w11.heap.size w11 w30 by rw [hw30]; exact hHeld.2.trans ⟨rfl, rfl, rfl, Nat.le_refl _, fun _ _ => rfl⟩)
                refine hK.out _ _ ⟨(show w30.cell? ⟨cg, q, none⟩ = some (.int .i64 y) by rw [hw30]; exact hHeld.1), (show Below w11.heap.size w11 w30 by rw [hw30]; exact hHeld.2.trans ⟨rfl, rfl, rfl, Nat.le_refl _, fun _ _ => rfl⟩)⟩ (fun hHeld => ?_)
                clear hK K
                refine norm_ (a' := ?_) ?_ ?_
                rotate_left
                · show Act.put _ (some 143) _ = _
                  simp only [Act.put, List.setIfInBounds_toArray, List.set_cons_zero, List.set_cons_succ, i64_w, i32_w]
                  rfl
                refine pure_ (i := 33) (N := some 144) (v := ?_) (a' := ?_) #[true, true, true, true, true, true, true, true, true, true, true, true, true, true, true, true, true, true, true, true, true, true, true, true, true, true, true, true, true, true, true, true, true, true, false] rfl rfl (by kernel_rfl) (fun _ _ _ h => h) (Or.inl ⟨by rfl, ?_⟩) ?_ ?_
                rotate_left
                · intro w'
                  go_simp
                  with_reducible rfl
                rotate_left
                · simp only [Act.put, List.setIfInBounds_toArray, List.set_cons_zero, List.set_cons_succ, i64_w, i32_w]
                  rfl
                refine pure_ (i := 34) (N := some 145) (v := ?_) (a' := ?_) #[true, true, true, true, true, true, true, true, true, true, true, true, true, true, true, true, true, true, true, true, true, true, true, true, true, true, true, true, true, true, true, true, true, true, true] rfl rfl (by kernel_rfl) (fun _ _ _ h => h) (Or.inl ⟨by rfl, ?_⟩) ?_ ?_
                rotate_left
                · intro w'
                  go_simp
                  with_reducible rfl
                rotate_left
                · simp only [Act.put, List.setIfInBounds_toArray, List.set_cons_zero, List.set_cons_succ, i64_w, i32_w]
                  rfl
                refine done_ (by kernel_rfl) ?_
                go_wp2
                go_roundw
                case rel => exact ⟨q + 1, by omega, by go_num, by have h9 := HBEND.out; rw [hw30] at h9; exact h9⟩
                case measure => simp [intOf]; omega
              · obtain ⟨qp, hqp⟩ : ∃ qp, q = qp + 1 := ⟨q - 1, by omega⟩
                have hql : qp < c.length := by have := HQL.out; omega
                have hcp := HC11.out qp hql
                have hord := HM.out.2.1 qp q (by omega) HQL.out
                obtain ⟨yp, hyp⟩ : ∃ yp, c.getD qp 0 = yp := ⟨_, rfl⟩
                rw [hyp] at hcp hord
                rw [HYQ.out] at hord
                have hcp' : wr.cell? ⟨cg, qp, none⟩ = some (.int .i64 yp) := (HBQ.out.cell (p := ⟨cg, qp, none⟩) hlt11).trans hcp
                have f1 : decide (0 < (q : Int)) = true := decide_eq_true (by omega)
                have f2 : decide (0 < q) = true := decide_eq_true (by omega)
                have f3 : decide (y ≤ yp) = false := decide_eq_false (by omega)
                have f4 : (qp : Int) < (c.length : Int) := by omega
                have f5 : IntKind.i64.wrap ((q : Int) - 1) = (qp : Int) := by rw [IntKind.wrap_i64]; omega
                have d4' : (h != h) = false := by simp
                have HORD := Lib.hid hord
                clear hq0 hqp hcp hyp hord hql
                have hlt7 : ∀ W : World, Below w11.heap.size w11 W → cg < W.heap.size := fun W h => by have := h.size; omega
                have HLT7 := Lib.hid hlt7
                go_wp2_with fail
                refine start_ (n := 35) (S := fun w' => w'.cell? ⟨cg, q, none⟩ = some (.int .i64 y) ∧ w'.cell? ⟨cg, qp, none⟩ = some (.int .i64 yp) ∧ Below w11.heap.size w11 w') (ds := []) #[false, false, false, false, false, false, false, false, false, false, false, false, false, false, false, false, false, false, false, false, false, false, false, false, false, false, false, false, false, false, false, false, false, false, false] (by kernel_rfl) rfl rfl ⟨hcq', hcp', HBQ.out.drew⟩ (fun hHeld => ?_)
                refine pure_ (i := 0) (N := some 111) (v := ?_) (a' := ?_) #[true, false, false, false, false, false, false, false, false, false, false, false, false, false, false, false, false, false, false, false, false, false, false, false, false, false, false, false, false, false, false, false, false, false, false] rfl rfl (by kernel_rfl) (fun _ _ _ h => h) (Or.inl ⟨by rfl, ?_⟩) ?_ ?_
                rotate_left
                · intro w'
                  go_simp
                  with_reducible rfl
                rotate_left
                · simp only [Act.put, List.setIfInBounds_toArray, List.set_cons_zero, List.set_cons_succ, i64_w, i32_w]
                  rfl
                refine pure_ (i := 1) (N := some 112) (v := ?_) (a' := ?_) #[true, true, false, false, false, false, false, false, false, false, false, false, false, false, false, false, false, false, false, false, false, false, false, false, false, false, false, false, false, false, false, false, false, false, false] rfl rfl (by kernel_rfl) (fun _ _ _ h => h) (Or.inl ⟨by rfl, ?_⟩) ?_ ?_
                rotate_left
                · intro w'
                  go_simp
                  with_reducible rfl
                rotate_left
                · simp only [Act.put, List.setIfInBounds_toArray, List.set_cons_zero, List.set_cons_succ, i64_w, i32_w]
                  rfl
                refine pure_ (i := 2) (N := some 113) (v := ?_) (a' := ?_) #[true, true, true, false, false, false, false, false, false, false, false, false, false, false, false, false, false, false, false, false, false, false, false, false, false, false, false, false, false, false, false, false, false, false, false] rfl rfl (by kernel_rfl) (fun _ _ _ h => h) (Or.inl ⟨by rfl, ?_⟩) ?_ ?_
                rotate_left
                · intro w'
                  go_simp
                  with_reducible rfl
                rotate_left
                · simp only [Act.put, List.setIfInBounds_toArray, List.set_cons_zero, List.set_cons_succ, i64_w, i32_w]
                  rfl
                refine pure_ (i := 3) (N := some 114) (v := ?_) (a' := ?_) #[true, true, true, true, false, false, false, false, false, false, false, false, false, false, false, false, false, false, false, false, false, false, false, false, false, false, false, false, false, false, false, false, false, false, false] rfl rfl (by kernel_rfl) (fun _ _ _ h => h) (Or.inl ⟨by rfl, ?_⟩) ?_ ?_
                rotate_left
                · intro w'
                  go_simp
                  with_reducible rfl
                rotate_left
                · simp only [Act.put, List.setIfInBounds_toArray, List.set_cons_zero, List.set_cons_succ, i64_w, i32_w]
                  rfl
                refine pure_ (i := 6) (N := some 117) (v := ?_) (a' := ?_) #[true, true, true, true, false, false, true, false, false, false, false, false, false, false, false, false, false, false, false, false, false, false, false, false, false, false, false, false, false, false, false, false, false, false, false] rfl rfl (by kernel_rfl) (fun _ _ _ h => h) (Or.inl ⟨by rfl, ?_⟩) ?_ ?_
                rotate_left
                · intro w'
                  go_simp
                  with_reducible rfl
                rotate_left
                · simp only [Act.put, List.setIfInBounds_toArray, List.set_cons_zero, List.set_cons_succ, i64_w, i32_w]
                  rfl
                refine take_ (i := 4) (N := some 115) (v := ?_) (a' := ?_) #[true, true, true, true, true, false, true, false, false, false, false, false, false, false, false, false, false, false, false, false, false, false, false, false, false, false, false, false, false, false, false, false, false, false, false] rfl rfl (by kernel_rfl) (fun _ _ _ h => h) (Or.inl ⟨by rfl, ?_⟩) hHeld ?_ ?_
                rotate_left
                · rintro w' ⟨s0, s1, s2⟩
                  go_simp
                  with_reducible rfl
                rotate_left
                · simp only [Act.put, List.setIfInBounds_toArray, List.set_cons_zero, List.set_cons_succ, i64_w, i32_w]
                  rfl
                refine one_ (i := 5) (N := some 116) #[true, true, true, true, true, true, true, false, false, false, false, false, false, false, false, false, false, false, false, false, false, false, false, false, false, false, false, false, false, false, false, false, false, false, false] rfl rfl (by kernel_rfl) (by decide) (fun K hK => ?_)
                refine goes_ Try.func22 (by kernel_rfl) rfl #[.pointer (some ⟨b, 0, none⟩), .int .i64 y] (by rfl) rfl rfl (by simp only [List.map_toArray, List.map_cons, List.map_nil]; rfl) ?_
                with_reducible refine (HHD.out _ (hHeld.2.2)).mono ?_
                rintro e w3 ⟨rfl, rfl⟩
                refine ⟨_, rfl, ?_⟩
                refine hK.out _ _ ⟨hHeld.1, hHeld.2.1, hHeld.2.2⟩ (fun hHeld => ?_)
                clear hK K
                refine norm_ (a' := ?_) ?_ ?_
                rotate_left
                · show Act.put _ (some 116) _ = _
                  simp only [Act.put, List.setIfInBounds_toArray, List.set_cons_zero, List.set_cons_succ, i64_w, i32_w]
                  rfl
                refine pure_ (i := 7) (N := some 118) (v := ?_) (a' := ?_) #[true, true, true, true, true, true, true, true, false, false, false, false, false, false, false, false, false, false, false, false, false, false, false, false, false, false, false, false, false, false, false, false, false, false, false] rfl rfl (by kernel_rfl) (fun _ _ _ h => h) (Or.inl ⟨by rfl, ?_⟩) ?_ ?_
                rotate_left
                · intro w'
                  go_simp
                  with_reducible rfl
                rotate_left
                · simp only [Act.put, List.setIfInBounds_toArray, List.set_cons_zero, List.set_cons_succ, i64_w, i32_w]
                  rfl
                refine pure_ (i := 8) (N := some 119) (v := ?_) (a' := ?_) #[true, true, true, true, true, true, true, true, true, false, false, false, false, false, false, false, false, false, false, false, false, false, false, false, false, false, false, false, false, false, false, false, false, false, false] rfl rfl (by kernel_rfl) (fun _ _ _ h => h) (Or.inl ⟨by rfl, ?_⟩) ?_ ?_
                rotate_left
                · intro w'
                  go_simp
                  with_reducible rfl
                rotate_left
                · simp only [Act.put, List.setIfInBounds_toArray, List.set_cons_zero, List.set_cons_succ, i64_w, i32_w]
                  rfl
                refine pure_ (i := 9) (N := some 120) (v := ?_) (a' := ?_) #[true, true, true, true, true, true, true, true, true, true, false, false, false, false, false, false, false, false, false, false, false, false, false, false, false, false, false, false, false, false, false, false, false, false, false] rfl rfl (by kernel_rfl) (fun _ _ _ h => h) (Or.inl ⟨by rfl, ?_⟩) ?_ ?_
                rotate_left
                · intro w'
                  go_simp
                  with_reducible rfl
                rotate_left
                · simp only [Act.put, List.setIfInBounds_toArray, List.set_cons_zero, List.set_cons_succ, i64_w, i32_w]
                  rfl
                refine pure_ (i := 10) (N := some 121) (v := ?_) (a' := ?_) #[true, true, true, true, true, true, true, true, true, true, true, false, false, false, false, false, false, false, false, false, false, false, false, false, false, false, false, false, false, false, false, false, false, false, false] rfl rfl (by kernel_rfl) (fun _ _ _ h => h) (Or.inl ⟨by rfl, ?_⟩) ?_ ?_
                rotate_left
                · intro w'
                  go_simp
                  with_reducible rfl
                rotate_left
                · simp only [Act.put, List.setIfInBounds_toArray, List.set_cons_zero, List.set_cons_succ, i64_w, i32_w]
                  rfl
                refine pure_ (i := 11) (N := some 122) (v := ?_) (a' := ?_) #[true, true, true, true, true, true, true, true, true, true, true, true, false, false, false, false, false, false, false, false, false, false, false, false, false, false, false, false, false, false, false, false, false, false, false] rfl rfl (by kernel_rfl) (fun _ _ _ h => h) (Or.inl ⟨by rfl, ?_⟩) ?_ ?_
                rotate_left
                · intro w'
                  go_simp
                  with_reducible rfl
                rotate_left
                · simp only [Act.put, List.setIfInBounds_toArray, List.set_cons_zero, List.set_cons_succ, i64_w, i32_w]
                  rfl
                refine pure_ (i := 12) (N := some 123) (v := ?_) (a' := ?_) #[true, true, true, true, true, true, true, true, true, true, true, true, true, false, false, false, false, false, false, false, false, false, false, false, false, false, false, false, false, false, false, false, false, false, false] rfl rfl (by kernel_rfl) (fun _ _ _ h => h) (Or.inl ⟨by rfl, ?_⟩) ?_ ?_
                rotate_left
                · intro w'
                  go_simp
                  with_reducible rfl
                rotate_left
                · simp only [Act.put, List.setIfInBounds_toArray, List.set_cons_zero, List.set_cons_succ, i64_w, i32_w]
                  rfl
                refine pure_ (i := 13) (N := some 124) (v := ?_) (a' := ?_) #[true, true, true, true, true, true, true, true, true, true, true, true, true, true, false, false, false, false, false, false, false, false, false, false, false, false, false, false, false, false, false, false, false, false, false] rfl rfl (by kernel_rfl) (fun _ _ _ h => h) (Or.inl ⟨by rfl, ?_⟩) ?_ ?_
                rotate_left
                · intro w'
                  go_simp
                  with_reducible rfl
                rotate_left
                · simp only [Act.put, List.setIfInBounds_toArray, List.set_cons_zero, List.set_cons_succ, i64_w, i32_w]
                  rfl
                refine pure_ (i := 14) (N := some 125) (v := ?_) (a' := ?_) #[true, true, true, true, true, true, true, true, true, true, true, true, true, true, true, false, false, false, false, false, false, false, false, false, false, false, false, false, false, false, false, false, false, false, false] rfl rfl (by kernel_rfl) (fun _ _ _ h => h) (Or.inl ⟨by rfl, ?_⟩) ?_ ?_
                rotate_left
                · intro w'
                  go_simp
                  with_reducible rfl
                rotate_left
                · simp only [Act.put, List.setIfInBounds_toArray, List.set_cons_zero, List.set_cons_succ, i64_w, i32_w]
                  rfl
                refine pure_ (i := 16) (N := some 127) (v := ?_) (a' := ?_) #[true, true, true, true, true, true, true, true, true, true, true, true, true, true, true, false, true, false, false, false, false, false, false, false, false, false, false, false, false, false, false, false, false, false, false] rfl rfl (by kernel_rfl) (fun _ _ _ h => h) (Or.inl ⟨by rfl, ?_⟩) ?_ ?_
                rotate_left
                · intro w'
                  go_simp
                  with_reducible rfl
                rotate_left
                · simp only [Act.put, List.setIfInBounds_toArray, List.set_cons_zero, List.set_cons_succ, i64_w, i32_w]
                  rfl
                refine pure_ (i := 17) (N := some 128) (v := ?_) (a' := ?_) #[true, true, true, true, true, true, true, true, true, true, true, true, true, true, true, false, true, true, false, false, false, false, false, false, false, false, false, false, false, false, false, false, false, false, false] rfl rfl (by kernel_rfl) (fun _ _ _ h => h) (Or.inl ⟨by rfl, ?_⟩) ?_ ?_
                rotate_left
                · intro w'
                  go_simp
                  with_reducible rfl
                rotate_left
                · simp only [Act.put, List.setIfInBounds_toArray, List.set_cons_zero, List.set_cons_succ, i64_w, i32_w]
                  rfl
                refine pure_ (i := 18) (N := some 129) (v := ?_) (a' := ?_) #[true, true, true, true, true, true, true, true, true, true, true, true, true, true, true, false, true, true, true, false, false, false, false, false, false, false, false, false, false, false, false, false, false, false, false] rfl rfl (by kernel_rfl) (fun _ _ _ h => h) (Or.inl ⟨by rfl, ?_⟩) ?_ ?_
                rotate_left
                · intro w'
                  go_simp
                  with_reducible rfl
                rotate_left
                · simp only [Act.put, List.setIfInBounds_toArray, List.set_cons_zero, List.set_cons_succ, i64_w, i32_w]
                  rfl
                refine pure_ (i := 19) (N := some 130) (v := ?_) (a' := ?_) #[true, true, true, true, true, true, true, true, true, true, true, true, true, true, true, false, true, true, true, true, false, false, false, false, false, false, false, false, false, false, false, false, false, false, false] rfl rfl (by kernel_rfl) (fun _ _ _ h => h) (Or.inl ⟨by rfl, ?_⟩) ?_ ?_
                rotate_left
                · intro w'
                  go_simp
                  with_reducible rfl
                rotate_left
                · simp only [Act.put, List.setIfInBounds_toArray, List.set_cons_zero, List.set_cons_succ, i64_w, i32_w]
                  rfl
                refine take_ (i := 15) (N := some 126) (v := ?_) (a' := ?_) #[true, true, true, true, true, true, true, true, true, true, true, true, true, true, true, true, true, true, true, true, false, false, false, false, false, false, false, false, false, false, false, false, false, false, false] rfl rfl (by kernel_rfl) (fun _ _ _ h => h) (Or.inl ⟨by rfl, ?_⟩) hHeld ?_ ?_
                rotate_left
                · rintro w' ⟨s0, s1, s2⟩
                  go_simp
                  with_reducible rfl
                rotate_left
                · simp only [Act.put, List.setIfInBounds_toArray, List.set_cons_zero, List.set_cons_succ, i64_w, i32_w]
                  rfl
                refine take_ (i := 20) (N := some 131) (v := ?_) (a' := ?_) #[true, true, true, true, true, true, true, true, true, true, true, true, true, true, true, true, true, true, true, true, true, false, false, false, false, false, false, false, false, false, false, false, false, false, false] rfl rfl (by kernel_rfl) (fun _ _ _ h => h) (Or.inl ⟨by rfl, ?_⟩) hHeld ?_ ?_
                rotate_left
                · rintro w' ⟨s0, s1, s2⟩
                  go_simp
                  with_reducible rfl
                rotate_left
                · simp only [Act.put, List.setIfInBounds_toArray, List.set_cons_zero, List.set_cons_succ, i64_w, i32_w]
                  rfl
                refine pure_ (i := 21) (N := some 132) (v := ?_) (a' := ?_) #[true, true, true, true, true, true, true, true, true, true, true, true, true, true, true, true, true, true, true, true, true, true, false, false, false, false, false, false, false, false, false, false, false, false, false] rfl rfl (by kernel_rfl) (fun _ _ _ h => h) (Or.inl ⟨by rfl, ?_⟩) ?_ ?_
                rotate_left
                · intro w'
                  go_simp
                  with_reducible rfl
                rotate_left
                · simp only [Act.put, List.setIfInBounds_toArray, List.set_cons_zero, List.set_cons_succ, i64_w, i32_w]
                  rfl
                refine pure_ (i := 22) (N := some 133) (v := ?_) (a' := ?_) #[true, true, true, true, true, true, true, true, true, true, true, true, true, true, true, true, true, true, true, true, true, true, true, false, false, false, false, false, false, false, false, false, false, false, false] rfl rfl (by kernel_rfl) (fun _ _ _ h => h) (Or.inl ⟨by rfl, ?_⟩) ?_ ?_
                rotate_left
                · intro w'
                  go_simp
                  with_reducible rfl
                rotate_left
                · simp only [Act.put, List.setIfInBounds_toArray, List.set_cons_zero, List.set_cons_succ, i64_w, i32_w]
                  rfl
                refine pure_ (i := 23) (N := some 134) (v := ?_) (a' := ?_) #[true, true, true, true, true, true, true, true, true, true, true, true, true, true, true, true, true, true, true, true, true, true, true, true, false, false, false, false, false, false, false, false, false, false, false] rfl rfl (by kernel_rfl) (fun _ _ _ h => h) (Or.inl ⟨by rfl, ?_⟩) ?_ ?_
                rotate_left
                · intro w'
                  go_simp
                  with_reducible rfl
                rotate_left
                · simp only [Act.put, List.setIfInBounds_toArray, List.set_cons_zero, List.set_cons_succ, i64_w, i32_w]
                  rfl
                refine pure_ (i := 24) (N := some 135) (v := ?_) (a' := ?_) #[true, true, true, true, true, true, true, true, true, true, true, true, true, true, true, true, true, true, true, true, true, true, true, true, true, false, false, false, false, false, false, false, false, false, false] rfl rfl (by kernel_rfl) (fun _ _ _ h => h) (Or.inl ⟨by rfl, ?_⟩) ?_ ?_
                rotate_left
                · intro w'
                  go_simp
                  with_reducible rfl
                rotate_left
                · simp only [Act.put, List.setIfInBounds_toArray, List.set_cons_zero, List.set_cons_succ, i64_w, i32_w]
                  rfl
                refine pure_ (i := 25) (N := some 136) (v := ?_) (a' := ?_) #[true, true, true, true, true, true, true, true, true, true, true, true, true, true, true, true, true, true, true, true, true, true, true, true, true, true, false, false, false, false, false, false, false, false, false] rfl rfl (by kernel_rfl) (fun _ _ _ h => h) (Or.inl ⟨by rfl, ?_⟩) ?_ ?_
                rotate_left
                · intro w'
                  go_simp
                  with_reducible rfl
                rotate_left
                · simp only [Act.put, List.setIfInBounds_toArray, List.set_cons_zero, List.set_cons_succ, i64_w, i32_w]
                  rfl
                refine pure_ (i := 26) (N := some 137) (v := ?_) (a' := ?_) #[true, true, true, true, true, true, true, true, true, true, true, true, true, true, true, true, true, true, true, true, true, true, true, true, true, true, true, false, false, false, false, false, false, false, false] rfl rfl (by kernel_rfl) (fun _ _ _ h => h) (Or.inl ⟨by rfl, ?_⟩) ?_ ?_
                rotate_left
                · intro w'
                  go_simp
                  with_reducible rfl
                rotate_left
                · simp only [Act.put, List.setIfInBounds_toArray, List.set_cons_zero, List.set_cons_succ, i64_w, i32_w]
                  rfl
                refine pure_ (i := 27) (N := some 138) (v := ?_) (a' := ?_) #[true, true, true, true, true, true, true, true, true, true, true, true, true, true, true, true, true, true, true, true, true, true, true, true, true, true, true, true, false, false, false, false, false, false, false] rfl rfl (by kernel_rfl) (fun _ _ _ h => h) (Or.inl ⟨by rfl, ?_⟩) ?_ ?_
                rotate_left
                · intro w'
                  go_simp
                  with_reducible rfl
                rotate_left
                · simp only [Act.put, List.setIfInBounds_toArray, List.set_cons_zero, List.set_cons_succ, i64_w, i32_w]
                  rfl
                refine pure_ (i := 28) (N := some 139) (v := ?_) (a' := ?_) #[true, true, true, true, true, true, true, true, true, true, true, true, true, true, true, true, true, true, true, true, true, true, true, true, true, true, true, true, true, false, false, false, false, false, false] rfl rfl (by kernel_rfl) (fun _ _ _ h => h) (Or.inl ⟨by rfl, ?_⟩) ?_ ?_
                rotate_left
                · intro w'
                  go_simp
                  with_reducible rfl
                rotate_left
                · simp only [Act.put, List.setIfInBounds_toArray, List.set_cons_zero, List.set_cons_succ, i64_w, i32_w]
                  rfl
                refine pure_ (i := 31) (N := some 142) (v := ?_) (a' := ?_) #[true, true, true, true, true, true, true, true, true, true, true, true, true, true, true, true, true, true, true, true, true, true, true, true, true, true, true, true, true, false, false, true, false, false, false] rfl rfl (by kernel_rfl) (fun _ _ _ h => h) (Or.inl ⟨by rfl, ?_⟩) ?_ ?_
                rotate_left
                · intro w'
                  go_simp
                  with_reducible rfl
                rotate_left
                · simp only [Act.put, List.setIfInBounds_toArray, List.set_cons_zero, List.set_cons_succ, i64_w, i32_w]
                  rfl
                refine take_ (i := 29) (N := some 140) (v := ?_) (a' := ?_) #[true, true, true, true, true, true, true, true, true, true, true, true, true, true, true, true, true, true, true, true, true, true, true, true, true, true, true, true, true, true, false, true, false, false, false] rfl rfl (by kernel_rfl) (fun _ _ _ h => h) (Or.inl ⟨by rfl, ?_⟩) hHeld ?_ ?_
                rotate_left
                · rintro w' ⟨s0, s1, s2⟩
                  go_simp
                  with_reducible rfl
                rotate_left
                · simp only [Act.put, List.setIfInBounds_toArray, List.set_cons_zero, List.set_cons_succ, i64_w, i32_w]
                  rfl
                refine one_ (i := 30) (N := some 141) #[true, true, true, true, true, true, true, true, true, true, true, true, true, true, true, true, true, true, true, true, true, true, true, true, true, true, true, true, true, true, true, true, false, false, false] rfl rfl (by kernel_rfl) (by decide) (fun K hK => ?_)
                refine goes_ Try.func23 (by kernel_rfl) rfl #[.pointer (some ⟨b, 0, none⟩), .int .i64 y] (by rfl) rfl rfl (by simp only [List.map_toArray, List.map_cons, List.map_nil]; rfl) ?_
                with_reducible refine (HCLS.out _ (hHeld.2.2)).mono ?_
                rintro e w7 ⟨cv, rfl, hcv7, hb7⟩
                obtain ⟨ca7, cc7, hcs7⟩ := ownsRow_shape hcv7
                subst hcs7
                refine ⟨_, rfl, ?_⟩
                have HCV7 := Lib.hid hcv7
                refine hK.out _ _ ⟨(hb7.cell (p := ⟨cg, q, none⟩) (hlt7 _ hHeld.2.2)).trans hHeld.1, (hb7.cell (p := ⟨cg, qp, none⟩) (hlt7 _ hHeld.2.2)).trans hHeld.2.1, hHeld.2.2.trans (hb7.mono (hHeld.2.2.size))⟩ (fun hHeld => ?_)
                clear hK K
                refine norm_ (a' := ?_) ?_ ?_
                rotate_left
                · show Act.put _ (some 141) _ = _
                  simp only [Act.put, List.setIfInBounds_toArray, List.set_cons_zero, List.set_cons_succ, i64_w, i32_w]
                  rfl
                refine one_ (i := 32) (N := some 143) #[true, true, true, true, true, true, true, true, true, true, true, true, true, true, true, true, true, true, true, true, true, true, true, true, true, true, true, true, true, true, true, true, true, false, false] rfl rfl (by kernel_rfl) (by decide) (fun K hK => ?_)
                refine goes_ Try.func20 (by kernel_rfl) rfl #[.slice ca7 c.length cc7, .slice (some ⟨cg, 0, none⟩) c.length cc] (by rfl) rfl rfl (by simp only [List.map_toArray, List.map_cons, List.map_nil]; rfl) ?_
                with_reducible refine (HSAME.out _ _ (hHeld.2.2) (ownsRow_ints HCV7.out (by omega))).mono ?_
                rintro e w30 ⟨rfl, nn, hw30⟩
                refine ⟨_, rfl, ?_⟩
                have HBEND := Lib.hid (show Below w11.heap.size w11 w30 by rw [hw30]; exact hHeld.2.2.trans ⟨rfl, rfl, rfl, Nat.le_refl _, fun _ _ => rfl⟩)
                refine hK.out _ _ ⟨(show w30.cell? ⟨cg, q, none⟩ = some (.int .i64 y) by rw [hw30]; exact hHeld.1), (show w30.cell? ⟨cg, qp, none⟩ = some (.int .i64 yp) by rw [hw30]; exact hHeld.2.1), (show Below w11.heap.size w11 w30 by rw [hw30]; exact hHeld.2.2.trans ⟨rfl, rfl, rfl, Nat.le_refl _, fun _ _ => rfl⟩)⟩ (fun hHeld => ?_)
                clear hK K
                refine norm_ (a' := ?_) ?_ ?_
                rotate_left
                · show Act.put _ (some 143) _ = _
                  simp only [Act.put, List.setIfInBounds_toArray, List.set_cons_zero, List.set_cons_succ, i64_w, i32_w]
                  rfl
                refine pure_ (i := 33) (N := some 144) (v := ?_) (a' := ?_) #[true, true, true, true, true, true, true, true, true, true, true, true, true, true, true, true, true, true, true, true, true, true, true, true, true, true, true, true, true, true, true, true, true, true, false] rfl rfl (by kernel_rfl) (fun _ _ _ h => h) (Or.inl ⟨by rfl, ?_⟩) ?_ ?_
                rotate_left
                · intro w'
                  go_simp
                  with_reducible rfl
                rotate_left
                · simp only [Act.put, List.setIfInBounds_toArray, List.set_cons_zero, List.set_cons_succ, i64_w, i32_w]
                  rfl
                refine pure_ (i := 34) (N := some 145) (v := ?_) (a' := ?_) #[true, true, true, true, true, true, true, true, true, true, true, true, true, true, true, true, true, true, true, true, true, true, true, true, true, true, true, true, true, true, true, true, true, true, true] rfl rfl (by kernel_rfl) (fun _ _ _ h => h) (Or.inl ⟨by rfl, ?_⟩) ?_ ?_
                rotate_left
                · intro w'
                  go_simp
                  with_reducible rfl
                rotate_left
                · simp only [Act.put, List.setIfInBounds_toArray, List.set_cons_zero, List.set_cons_succ, i64_w, i32_w]
                  rfl
                refine done_ (by kernel_rfl) ?_
                go_wp2
                go_roundw
                case rel => exact ⟨q + 1, by omega, by go_num, by have h9 := HBEND.out; rw [hw30] at h9; exact h9⟩
                case measure => simp [intOf]; omega
            · obtain rfl : q = c.length := by omega
              have HA := Lib.hid (alive_any wr)
              clear hltq
              go_wp2_with (go_at_call 16; refine HA.out.mono ?_; rintro e w20 ⟨rfl, hb20⟩; have HB20 := Lib.hid hb20; clear hb20)
              go_ret
              have c9 : Below w.heap.size w w9 := HB.out.trans (HB9.out.mono HB.out.size)
              have c11 : Below w.heap.size w w11 := c9.trans (HB11.out.mono c9.size)
              have cr : Below w.heap.size w wr := c11.trans (HBQ.out.mono c11.size)
              exact ⟨rfl, cr.trans (HB20.out.mono cr.size)⟩
        · have ho : i < 1 ∨ (xs.length : Int) < i := by rw [HXS.out]; omega
          have hcl := class_no HU.out HWF.out.len i ho
          have hhd := head_no HU.out HWF.out.len i ho
          have HO := Lib.hid ho; clear ho
          have hsm : ∀ W, UfAt W w.heap.size b v xs → ∀ lv', IntsAt W lv' [i] → Calls Try.prog 21 #[.pointer (some ⟨b, 0, none⟩), lv'] W (RetD (.bool false) W) := by
            intro W h1 lv' h2
            have := same_any h1 HWF.out lv' [i] h2
            have e : sameB xs [i] = false := by
              have := HO.out
              simp only [sameB, List.all_cons, List.all_nil, Bool.and_true, okB, List.getD_cons_zero]
              simp; intros; omega
            rwa [e] at this
          have HSM := Lib.hid hsm; clear hsm
          by_cases h1 : i < 1
          · clear hi
            go_wp2_with (first | (go_at_call 23; refine hcl.mono ?_; rintro e w' ⟨rfl, rfl⟩) | (go_at_call 22; refine hhd.mono ?_; rintro e w' ⟨rfl, rfl⟩))
            refine (alive_any wr).mono ?_
            rintro e w9 ⟨rfl, hb9⟩
            have HB9 := Lib.hid hb9
            have HU9 := Lib.hid (HU.out.below hb9)
            clear hb9
            go_wp2_with fail
            refine (HSM.out _ (HU9.out.alloc _) _ (ints_built w9 [i] (by simp))).mono ?_
            rintro e w10 ⟨rfl, nn, hw10⟩
            have c9 : Below w.heap.size w w9 := HB.out.trans (HB9.out.mono HB.out.size)
            have c10 : Below w.heap.size w w10 := by rw [hw10]; exact (c9.alloc c9.size _).trans ⟨rfl, rfl, rfl, Nat.le_refl _, fun _ _ => rfl⟩
            have C10 := Lib.hid c10
            clear c9 c10 hw10
            go_wp2
            go_ret
            exact ⟨rfl, C10.out⟩
          · have h2 : (k : Int) < i := by omega
            clear hi
            go_wp2_with (first | (go_at_call 23; refine hcl.mono ?_; rintro e w' ⟨rfl, rfl⟩) | (go_at_call 22; refine hhd.mono ?_; rintro e w' ⟨rfl, rfl⟩))
            refine (alive_any wr).mono ?_
            rintro e w9 ⟨rfl, hb9⟩
            have HB9 := Lib.hid hb9
            have HU9 := Lib.hid (HU.out.below hb9)
            clear hb9
            go_wp2_with fail
            refine (HSM.out _ (HU9.out.alloc _) _ (ints_built w9 [i] (by simp))).mono ?_
            rintro e w10 ⟨rfl, nn, hw10⟩
            have c9 : Below w.heap.size w w9 := HB.out.trans (HB9.out.mono HB.out.size)
            have c10 : Below w.heap.size w w10 := by rw [hw10]; exact (c9.alloc c9.size _).trans ⟨rfl, rfl, rfl, Nat.le_refl _, fun _ _ => rfl⟩
            have C10 := Lib.hid c10
            clear c9 c10 hw10
            go_wp2
            go_ret
            exact ⟨rfl, C10.out⟩
end Go.Proofs.Ytoiikbomdlnjlaa.Uf
