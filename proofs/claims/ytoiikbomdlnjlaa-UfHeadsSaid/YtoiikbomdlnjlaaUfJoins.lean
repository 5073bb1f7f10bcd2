/- Proved: the walk of the law UfJoins: joining in another order ends the same; each number is in one class. -/
import Derived.Test.YtoiikbomdlnjlaaUfGrows
import Derived.Deep.RegionWith
set_option linter.unusedVariables false
set_option linter.unusedSimpArgs false
namespace Go.Proofs.Ytoiikbomdlnjlaa.Uf
open Go.RowKit

/-- the object in memory that was turned elsewhere -/
theorem UfAt.keep {w w' : World} {B b : Nat} {v : Value} {xs : List Int} (h : UfAt w B b v xs) (hb : w'.heap[b]? = w.heap[b]?) (hk : ∀ g, v.ownBlock = some g → w'.heap[g]? = w.heap[g]?) : UfAt w' B b v xs := by
  refine ⟨h.ge, hb.trans h.blk, ?_, h.ne⟩
  obtain ⟨h1, h2⟩ := h.own
  refine ⟨h1, ?_⟩
  rcases h2 with hn | ⟨g, cap, cur, rfl, hB, hg, rest⟩
  · exact .inl hn
  · exact .inr ⟨g, cap, cur, rfl, hB, (hk g rfl).trans hg, rest⟩
/-- the pairs from s to e that are put together -/
def Resp (l ys : List Int) (s e : Nat) : Prop := ∀ t, s ≤ t → t < e → hd ys (l.getD (2 * t) 0) = hd ys (l.getD (2 * t + 1) 0)
/-- nothing is put together that the pairs do not ask for -/
def Least (l xs : List Int) (n T : Nat) : Prop := ∀ ys, Wf ys → ys.length = n → Resp l ys 0 T → ∀ i j : Int, 1 ≤ i → i ≤ n → 1 ≤ j → j ≤ n → hd xs i = hd xs j → hd ys i = hd ys j
theorem growTo_hd0 (n : Nat) (hn : n ≤ 1000) (i : Int) (h1 : 1 ≤ i) (h2 : i ≤ n) : hd (growTo [] n) i = i := by
  have := growTo_hd wf_nil n (by simp) hn _ i (Nat.le_refl _) h1 h2
  rwa [if_neg (by simp; omega)] at this
theorem least_start (l : List Int) (n T : Nat) (hn : n ≤ 1000) : Least l (growTo [] n) n T := by
  intro ys _ _ _ i j h1 h2 k1 k2 h
  rw [growTo_hd0 n hn i h1 h2, growTo_hd0 n hn j k1 k2] at h
  rw [h]
theorem joinTwo (xs : List Int) (a b : Int) : joinAll a [a, b] xs = ((joinOne xs a b).1, (joinOne xs a b).2) := by
  have e : joinOne xs a a = (xs, 0) := by unfold joinOne; rw [if_pos rfl]
  simp [joinAll, e]
theorem joinOne_swap {xs : List Int} (a b : Int) : joinOne xs a b = joinOne xs b a := by
  unfold joinOne
  by_cases e : hd xs a = hd xs b
  · rw [if_pos e, if_pos e.symm]
  · rw [if_neg e, if_neg (fun h => e h.symm), Int.max_comm, Int.min_comm]
theorem least_step {l xs : List Int} {n T t : Nat} (hw : Wf xs) (hl : xs.length = n) (h : Least l xs n T) (ht : t < T) {a b : Int} (ha : l.getD (2 * t) 0 = a) (hb : l.getD (2 * t + 1) 0 = b)
    (a1 : 1 ≤ a) (a2 : a ≤ n) (b1 : 1 ≤ b) (b2 : b ≤ n) : Least l (joinOne xs a b).1 n T := by
  intro ys hy hyl hr i j h1 h2 k1 k2 e
  have hrt := hr t (by omega) ht
  rw [ha, hb] at hrt
  subst hl
  rcases (rel_join hw a1 a2 b1 b2 h1 h2 k1 k2).1 e with e1 | ⟨e1, e2⟩ | ⟨e1, e2⟩
  · exact h ys hy hyl hr i j h1 h2 k1 k2 e1
  · have q1 := h ys hy hyl hr i a h1 h2 a1 a2 e1
    have q2 := h ys hy hyl hr j b k1 k2 b1 b2 e2
    omega
  · have q1 := h ys hy hyl hr i b h1 h2 b1 b2 e1
    have q2 := h ys hy hyl hr j a k1 k2 a1 a2 e2
    omega
theorem resp_step {l xs : List Int} {n s e t : Nat} (hw : Wf xs) (hl : xs.length = n) (h : Resp l xs s e) {a b : Int} (ha : l.getD (2 * t) 0 = a) (hb : l.getD (2 * t + 1) 0 = b)
    (a1 : 1 ≤ a) (a2 : a ≤ n) (b1 : 1 ≤ b) (b2 : b ≤ n) (hin : ∀ j, j < l.length → 1 ≤ l.getD j 0 ∧ l.getD j 0 ≤ n) (he : 2 * e ≤ l.length) (u : Nat) (hu : u = t ∨ (s ≤ u ∧ u < e)) :
    hd (joinOne xs a b).1 (l.getD (2 * u) 0) = hd (joinOne xs a b).1 (l.getD (2 * u + 1) 0) := by
  subst hl
  rcases hu with rfl | ⟨u1, u2⟩
  · rw [ha, hb]; exact rel_new hw a1 a2 b1 b2
  · have i1 := hin (2 * u) (by omega)
    have i2 := hin (2 * u + 1) (by omega)
    exact rel_mono hw a1 a2 b1 b2 i1.1 i1.2 i2.1 i2.2 (h u u1 u2)
theorem same_end {l xs ys : List Int} {n T : Nat} (hx : Wf xs) (hy : Wf ys) (lx : xs.length = n) (ly : ys.length = n) (rx : Resp l xs 0 T) (ry : Resp l ys 0 T) (mx : Least l xs n T) (my : Least l ys n T) :
    ∀ i : Int, 1 ≤ i → i ≤ xs.length → hd xs i = hd ys i := by
  intro i h1 h2
  exact hd_of_rel hx hy (lx.trans ly.symm) (fun i j a b c d e => mx ys hy ly ry i j a (by omega) c (by omega) e) (fun i j a b c d e => my xs hx lx rx i j a (by omega) c (by omega) e) h1 h2
theorem heads_start (n : Nat) (hn : n ≤ 1000) : (heads (growTo [] n)).length = n := by
  unfold heads
  rw [growTo_len [] n (by simp)]
  have : (rangeI 1 n).filter (fun x => decide (hd (growTo [] n) x = x)) = rangeI 1 n := by
    rw [List.filter_eq_self]
    intro x hx
    have hm := mem_rangeI.1 hx
    simp [growTo_hd0 n hn x (by omega) (by omega)]
  rw [this, rangeI_len]
/-- two numbers of one class are told to be in one class; of two classes they are not -/
theorem sameB_all {xs : List Int} (hw : Wf xs) {h : Int} (h1 : 1 ≤ h) (h2 : h ≤ xs.length) : sameB xs (cls xs h) = true := by
  unfold sameB
  rw [List.all_eq_true]
  intro x hx
  have hm := (mem_cls hw h1 h2).1 hx
  obtain ⟨t, ht⟩ := cls_head hw h1 h2
  simp only [okB, Bool.and_eq_true, decide_eq_true_eq]
  rw [ht]
  refine ⟨⟨hm.1.1, hm.1.2⟩, ?_⟩
  simp only [List.getD_cons_zero]
  rw [hm.2, hd_hd hw h1 h2]
theorem sum_take (l : List (List Int)) (k : Nat) (hk : k < l.length) : ((l.take (k + 1)).map List.length).sum = ((l.take k).map List.length).sum + (l.getD k []).length := by
  rw [List.take_succ_eq_append_getElem hk, List.map_append, List.sum_append, List.getD_eq_getElem?_getD, List.getElem?_eq_getElem hk]
  simp
theorem UfAt.drew {w : World} {B b : Nat} {v : Value} {xs : List Int} (h : UfAt w B b v xs) : UfAt w.drew B b v xs := ⟨h.1, h.2, h.3, h.4⟩
theorem IntsAt.drew {w : World} {v : Value} {l : List Int} (h : IntsAt w v l) : IntsAt w.drew v l := h
theorem clss_at {xs : List Int} (hw : Wf xs) (k : Nat) (hk : k < (clss xs).length) : 1 ≤ (heads xs).getD k 0 ∧ (heads xs).getD k 0 ≤ xs.length ∧ hd xs ((heads xs).getD k 0) = (heads xs).getD k 0 ∧ (clss xs).getD k [] = cls xs ((heads xs).getD k 0) := by
  have hk2 : k < (heads xs).length := by rw [← clss_len]; exact hk
  have hm : (heads xs).getD k 0 ∈ heads xs := by rw [List.getD_eq_getElem?_getD, List.getElem?_eq_getElem hk2]; exact List.getElem_mem hk2
  have hm2 := List.mem_filter.1 hm
  have hm3 := mem_rangeI.1 hm2.1
  refine ⟨by omega, by omega, by simpa using hm2.2, ?_⟩
  rw [clss_eq]
  show ((heads xs).map (cls xs)).getD k [] = _
  simp only [List.getD_eq_getElem?_getD, List.getElem?_map, List.getElem?_eq_getElem hk2]
  rfl
theorem heads_lt {xs : List Int} (j k : Nat) (hjk : j < k) (hk : k < (clss xs).length) : (heads xs).getD j 0 < (heads xs).getD k 0 := by
  have hk2 : k < (heads xs).length := by rw [← clss_len]; exact hk
  have hs : (heads xs).Pairwise (· < ·) := (rangeI_sorted _ _).filter _
  have := List.pairwise_iff_getElem.1 hs j k (by omega) hk2 hjk
  simp only [List.getD_eq_getElem?_getD, List.getElem?_eq_getElem hk2, List.getElem?_eq_getElem (show j < (heads xs).length by omega)]
  exact this
theorem cls_get {xs : List Int} (hw : Wf xs) {h : Int} (h1 : 1 ≤ h) (h2 : h ≤ xs.length) (j : Nat) (hj : j < (cls xs h).length) : 1 ≤ (cls xs h).getD j 0 ∧ (cls xs h).getD j 0 ≤ xs.length ∧ hd xs ((cls xs h).getD j 0) = hd xs h := by
  have hm : (cls xs h).getD j 0 ∈ cls xs h := by rw [List.getD_eq_getElem?_getD, List.getElem?_eq_getElem hj]; exact List.getElem_mem hj
  have := (mem_cls hw h1 h2).1 hm
  exact ⟨this.1.1, this.1.2, this.2⟩
theorem RowsAt.below {w w' : World} {B : Nat} {v : Value} {cs : List (List Int)} {vals : List Value} (h : RowsAt w B v cs vals) (hb : Below w.heap.size w w') : RowsAt w' B v cs vals :=
  h.keep fun g _ h2 => hb.block g h2

theorem sum_take_le (l : List (List Int)) (i : Nat) : ((l.take i).map List.length).sum ≤ (l.map List.length).sum := by
  conv => rhs; rw [← List.take_append_drop i l, List.map_append, List.sum_append]
  omega
theorem same_q {w : World} {B b : Nat} {v : Value} {xs : List Int} (h : UfAt w B b v xs) (hw : Wf xs) (lv : Value) (l : List Int) (hl : IntsAt w lv l) (n : Nat) :
    Calls Try.prog 21 #[.pointer (some ⟨b, 0, none⟩), lv] (w.drewN n) fun e w'' => e = .returned (.bool (sameB xs l)) ∧ ∃ m, w'' = w.drewN m :=
  (same_any (h.drewN n) hw lv l (hl.drewN n)).mono fun _ _ ⟨he, m, hm⟩ => ⟨he, n + m, by rw [hm, World.drewN_drewN]⟩
set_option maxRecDepth 100000 in
set_option maxHeartbeats 25600000 in
theorem ufJoins_walk (w : World) (n : Int) (hn : -9223372036854775808 ≤ n ∧ n ≤ 9223372036854775807) (lv : Value) (l : List Int) (hl : ArgInts w lv l) :
    Calls Try.prog 6 #[.int .i64 n, lv] w fun e w' => e = .returned (.bool true) ∧ Below w.heap.size w w' := by
  obtain ⟨hn1, hn2⟩ := hn
  have HL := Lib.hid hl; clear hl
  obtain ⟨a, cap, hv, hlm, hc⟩ := HL.out.ints
  subst hv
  clear hc
  have HA := Lib.hid (alive_any w)
  by_cases hg : n < 1 ∨ (1 ≤ n ∧ 40 < n) ∨ (1 ≤ n ∧ n ≤ 40 ∧ 60 < (l.length : Int))
  · rcases hg with g1 | ⟨g1, g2⟩ | ⟨g1, g2, g3⟩
    all_goals
      go_enter Try.func6, Try.ntmps6
      go_wp2_with (go_at_call 16; refine HA.out.mono ?_; rintro e w' ⟨rfl, hb⟩)
      go_ret
      exact ⟨rfl, hb⟩
  · clear HA
    obtain ⟨k, rfl⟩ : ∃ k : Nat, n = (k : Int) := ⟨n.toNat, by omega⟩
    have g0 : (1 : Int) ≤ (k : Int) := by omega
    have g1 : (k : Int) ≤ 40 := by omega
    have g4 : (l.length : Int) ≤ 60 := by omega
    clear hg hn1 hn2
    have t0 : decide ((k : Int) < 1) = false := decide_eq_false (by omega)
    have t1 : decide (40 < (k : Int)) = false := decide_eq_false (by omega)
    have t4 : decide (60 < (l.length : Int)) = false := decide_eq_false (by omega)
    have hnew := new_yes w k (by omega)
    go_enter Try.func6, Try.ntmps6
    go_wp2_with fail
    refine hnew.mono ?_
    rintro e w1 ⟨b1, v1, rfl, hu1, hb1⟩
    have H1 := Lib.hid hu1; have B1 := Lib.hid hb1; clear hu1 hb1 hnew
    have hnew := new_yes w1 k (by omega)
    go_wp2_with fail
    refine hnew.mono ?_
    rintro e w2 ⟨b2, v2, rfl, hu2, hb2⟩
    have H2 := Lib.hid hu2; have B2 := Lib.hid hb2; have H12 := Lib.hid (H1.out.below hb2); clear hu2 hb2 hnew
    have c2 : Below w.heap.size w w2 := B1.out.trans (B2.out.mono B1.out.size)
    have C2 := Lib.hid c2; clear c2
    have hl2 := HL.out.ints.below C2.out HL.out.lt
    obtain ⟨a', cap', e1, -, hc2⟩ := hl2
    simp only [Value.slice.injEq, true_and] at e1
    obtain ⟨rfl, rfl⟩ := e1
    have HC2 := Lib.hid hc2; clear hc2
    by_cases hin : ∀ j, j < l.length → 1 ≤ l.getD j 0 ∧ l.getD j 0 ≤ (k : Int)
    · have HIN := Lib.hid hin; clear hin
      obtain ⟨T, hT⟩ : ∃ T, l.length / 2 = T := ⟨_, rfl⟩
      have HT := Lib.hid hT
      have hT1 : 2 * T ≤ l.length := by omega
      have hT2 : l.length ≤ 2 * T + 1 := by omega
      clear hT
      go_wp2_with fail
      go_loop [9] (fun t => ∃ j : Nat, j ≤ l.length ∧ t = .int .i64 j) (fun t => l.length - (intOf t).toNat)
      case atStart => exact ⟨0, by omega, rfl⟩
      case round =>
        obtain ⟨j, hj, rfl⟩ := hrel
        by_cases hlt : j < l.length
        · obtain ⟨g, o, rfl, hcell⟩ := HC2.out (by omega)
          have hck := hcell j hlt
          clear hcell
          have hr := HIN.out j hlt
          obtain ⟨y, hy⟩ : ∃ y, l.getD j 0 = y := ⟨_, rfl⟩
          rw [hy] at hck hr
          clear hy
          obtain ⟨r1, r2⟩ := hr
          go_wp2
          go_round
          case rel => exact ⟨j + 1, by omega, by go_num⟩
          case measure => simp [intOf]; omega
        · obtain rfl : j = l.length := by omega
          clear hlt
          go_wp2
          go_loopg [10, 11] T (fun d t10 t11 wr => ∃ (t p : Nat) (f : Int) (xs : List Int), d = T - t ∧ p = 2 * t ∧ t ≤ T ∧ t10 = .int .i64 f ∧ t11 = .int .i64 p ∧ Wf xs ∧ xs.length = k ∧ UfAt wr w.heap.size b1 v1 xs ∧ UfAt wr w1.heap.size b2 v2 (growTo [] k) ∧ Below w.heap.size w wr ∧ Resp l xs 0 t ∧ Least l xs k T ∧ f + (heads xs).length = k ∧ 0 ≤ f ∧ f ≤ t)
          case atStart =>
            exact ⟨0, 0, 0, growTo [] k, rfl, rfl, by omega, rfl, rfl, growTo_wf wf_nil k (by simp) (by omega), growTo_len [] k (by simp), H12.out, H2.out, C2.out, fun t _ h => by omega, least_start l k T (by omega), by rw [heads_start k (by omega)]; omega, by omega, by omega⟩
          case round =>
            obtain ⟨t, p, f, xs, hd0, hp, htT, rfl, rfl, hwf, hxs, hu1, hu2, hbel, hresp, hleast, hcnt, f0, f1⟩ := hrel
            have HP := Lib.hid (And.intro hd0 hp); have HWF := Lib.hid hwf; have HXS := Lib.hid hxs; have HU1 := Lib.hid hu1; have HU2 := Lib.hid hu2; have HB := Lib.hid hbel; have HRS := Lib.hid hresp; have HLS := Lib.hid hleast; have HCT := Lib.hid hcnt
            have hp1 : p ≤ 2 * T := by omega
            clear hd0 hp hwf hxs hu1 hu2 hbel hresp hleast hcnt
            have hl3 := HL.out.ints.below HB.out HL.out.lt
            obtain ⟨a3, cap3, e1, -, hc3⟩ := hl3
            simp only [Value.slice.injEq, true_and] at e1
            obtain ⟨rfl, rfl⟩ := e1
            by_cases hlt : t < T
            · have hpl : p + 1 < l.length := by have := HP.out.2; omega
              obtain ⟨g, o, rfl, hcell⟩ := hc3 (by omega)
              have hy1 := hcell p (by omega)
              have hz1 := hcell (p + 1) hpl
              have ry := HIN.out p (by omega)
              have rz := HIN.out (p + 1) hpl
              obtain ⟨y, hy⟩ : ∃ y, l.getD p 0 = y := ⟨_, rfl⟩
              obtain ⟨z, hz⟩ : ∃ z, l.getD (p + 1) 0 = z := ⟨_, rfl⟩
              rw [hy] at hy1 ry
              rw [hz] at hz1 rz
              have HY := Lib.hid (And.intro hy hz)
              have hj : ∀ W, UfAt W w.heap.size b1 v1 xs → IntsAt W (.slice (some ⟨wr.heap.size, 0, none⟩) 2 2) [y, z] → Calls Try.prog 18 #[.pointer (some ⟨b1, 0, none⟩), .slice (some ⟨wr.heap.size, 0, none⟩) 2 2] W (JoinPost w.heap.size b1 v1 (joinOne xs y z).1 (joinOne xs y z).2 W) := by
                intro W h1 h2
                have := join_yes h1 HWF.out _ [y, z] h2 (fun _ => HU1.out.notNew 2 2) (by intro j hj; simp only [List.length_cons, List.length_nil] at hj; rw [HXS.out]; match j, hj with | 0, _ => exact ry | 1, _ => exact rz) (by simp)
                rw [show ([y, z] : List Int).getD 0 0 = y from rfl, joinTwo] at this
                exact this
              have HJ := Lib.hid hj
              have HR := Lib.hid (And.intro ry rz)
              have hnum := joinOne_num xs y z
              obtain ⟨m, hm⟩ : ∃ m, (joinOne xs y z).2 = m := ⟨_, rfl⟩
              rw [hm] at hnum
              obtain ⟨n1, n2⟩ := hnum
              have HM := Lib.hid hm
              have hU1d : UfAt (wr.alloc (.cells #[.int .i64 y, .int .i64 z] 3)).drew w.heap.size b1 v1 xs := (HU1.out.alloc _).drew
              have hI : IntsAt (wr.alloc (.cells #[.int .i64 y, .int .i64 z] 3)).drew (.slice (some ⟨wr.heap.size, 0, none⟩) 2 2) [y, z] := (ints_built wr [y, z] (by simp)).drew
              have hcall := HJ.out _ hU1d hI
              rw [hm] at hcall
              have HCALL := Lib.hid hcall
              have hw1 : IntKind.i64.wrap ((p : Int) + 1) = (p : Int) + 1 := by rw [IntKind.wrap_i64]; omega
              have hpi : (p : Int) + 1 < (l.length : Int) := by omega
              have hp0 : (0 : Int) ≤ (p : Int) + 1 := by omega
              have hp2 : ((p : Int) + 1).toNat = p + 1 := by omega
              have ff0 : f ≤ 60 := by omega
              clear hc3 hcell hy hz ry rz hj hm hU1d hI hcall
              go_wp2_with fail
              go_region_with ((go_at_call 18; refine HCALL.out.mono ?_; rintro e w3 ⟨rfl, hu3, hb3, hs3, hf3⟩; have H3 := Lib.hid hu3; have B3 := Lib.hid hb3; have S3 := Lib.hid hs3; have F3 := Lib.hid hf3; clear hu3 hb3 hs3 hf3))
              all_goals
                go_wp2
                go_roundg (T - (t + 1))
                case measure => have := HP.out.1; omega
                case rel =>
                  have hp := HP.out.2
                  have hy : l.getD (2 * t) 0 = y := by rw [← hp]; exact HY.out.1
                  have hz : l.getD (2 * t + 1) 0 = z := by rw [← hp]; exact HY.out.2
                  have r := HR.out
                  have hxl := HXS.out
                  have hwf := HWF.out
                  have hhj := heads_join hwf r.1.1 (by rw [hxl]; exact r.1.2) r.2.1 (by rw [hxl]; exact r.2.2)
                  rw [HM.out] at hhj
                  have hlo := HU2.out.own
                  have hge2 := HU2.out.ge
                  have hlt2 := HU2.out.lt
                  have hv1 : ∀ g, v1.ownBlock = some g → g < w1.heap.size := fun g hg => (H1.out.own.lt g hg).2
                  refine ⟨t + 1, p + 2, f + m, (joinOne xs y z).1, rfl, by omega, by omega, rfl, by go_num, joinOne_wf hwf r.1.1 (by rw [hxl]; exact r.1.2) r.2.1 (by rw [hxl]; exact r.2.2), (joinOne_len xs y z).trans hxl, H3.out, ?_, ?_, ?_, ?_, ?_, by omega, by omega⟩
                  · refine (HU2.out.alloc (.cells #[.int .i64 y, .int .i64 z] 3)).drew.keep (F3.out b2 (fun e => ?_)) (fun g hg => F3.out g (fun e => ?_))
                    · have := hv1 b2 e; omega
                    · have := hv1 g e; have := (hlo.lt g hg).1; omega
                  · exact (HB.out.trans (((Below.refl _ _).alloc HB.out.size _).drew)).trans B3.out
                  · intro u u1 u2
                    exact resp_step hwf hxl HRS.out hy hz r.1.1 r.1.2 r.2.1 r.2.2 HIN.out (by omega) u (by omega)
                  · exact least_step hwf hxl HLS.out hlt hy hz r.1.1 r.1.2 r.2.1 r.2.2
                  · have := HCT.out; omega
            · have hpT : p = 2 * T := by have := HP.out.2; omega
              have htT2 : t = T := by omega
              subst htT2
              have hpl : ¬ ((p : Int) + 1 < (l.length : Int)) := by omega
              have ff0 : f ≤ 60 := by omega
              have PT := Lib.hid hpT
              obtain ⟨wo, rfl⟩ : ∃ wo : World, wo = wr := ⟨_, rfl⟩
              clear hpT hc3 hlt
              go_wp2_with fail
              go_loopg [14] t (fun d t14 wr => ∃ (s : Nat) (q : Int) (ys : List Int), d = s ∧ q = 2 * (s : Int) - 2 ∧ s ≤ t ∧ t14 = .int .i64 q ∧ Wf ys ∧ ys.length = k ∧ UfAt wr w.heap.size b1 v1 xs ∧ UfAt wr w1.heap.size b2 v2 ys ∧ Below w.heap.size w wr ∧ Resp l ys s t ∧ Least l ys k t)
              case atStart =>
                exact ⟨t, _, growTo [] k, rfl, by omega, by omega, rfl, growTo_wf wf_nil k (by simp) (by omega), growTo_len [] k (by simp), HU1.out, HU2.out, HB.out, fun u h1 h2 => by omega, least_start l k t (by omega)⟩
              case round =>
                obtain ⟨s, q, ys, hd0, hq, hst, rfl, hwfy, hys, hu1, hu2, hbel, hresp, hleast⟩ := hrel
                have HD0 := Lib.hid hd0; have HWFY := Lib.hid hwfy; have HYS := Lib.hid hys; have HU1b := Lib.hid hu1; have HU2b := Lib.hid hu2; have HBb := Lib.hid hbel; have HRSb := Lib.hid hresp; have HLSb := Lib.hid hleast
                clear hd0 hwfy hys hu1 hu2 hbel hresp hleast
                have hl4 := HL.out.ints.below HBb.out HL.out.lt
                obtain ⟨a4, cap4, e1, -, hc4⟩ := hl4
                simp only [Value.slice.injEq, true_and] at e1
                obtain ⟨rfl, rfl⟩ := e1
                by_cases hlt : 1 ≤ s
                · obtain ⟨p2, rfl⟩ : ∃ p2 : Nat, q = (p2 : Int) := ⟨2 * s - 2, by omega⟩
                  have hp2 : p2 = 2 * (s - 1) := by omega
                  have HP2 := Lib.hid hp2
                  have hpl2 : p2 + 1 < l.length := by omega
                  clear hq hp2
                  obtain ⟨g, o, rfl, hcell⟩ := hc4 (by omega)
                  have hy1 := hcell p2 (by omega)
                  have hz1 := hcell (p2 + 1) hpl2
                  have ry := HIN.out p2 (by omega)
                  have rz := HIN.out (p2 + 1) hpl2
                  obtain ⟨y, hy⟩ : ∃ y, l.getD p2 0 = y := ⟨_, rfl⟩
                  obtain ⟨z, hz⟩ : ∃ z, l.getD (p2 + 1) 0 = z := ⟨_, rfl⟩
                  rw [hy] at hy1 ry
                  rw [hz] at hz1 rz
                  have HY := Lib.hid (And.intro hy hz)
                  have HR := Lib.hid (And.intro ry rz)
                  have hU2d : UfAt (wr.alloc (.cells #[.int .i64 z, .int .i64 y] 3)).drew w1.heap.size b2 v2 ys := (HU2b.out.alloc _).drew
                  have hI : IntsAt (wr.alloc (.cells #[.int .i64 z, .int .i64 y] 3)).drew (.slice (some ⟨wr.heap.size, 0, none⟩) 2 2) [z, y] := (ints_built wr [z, y] (by simp)).drew
                  have hcall : Calls Try.prog 18 #[.pointer (some ⟨b2, 0, none⟩), .slice (some ⟨wr.heap.size, 0, none⟩) 2 2] (wr.alloc (.cells #[.int .i64 z, .int .i64 y] 3)).drew (JoinPost w1.heap.size b2 v2 (joinOne ys y z).1 (joinOne ys y z).2 (wr.alloc (.cells #[.int .i64 z, .int .i64 y] 3)).drew) := by
                    have := join_yes hU2d HWFY.out _ [z, y] hI (fun _ => HU2b.out.notNew 2 2) (by intro j hj; simp only [List.length_cons, List.length_nil] at hj; rw [HYS.out]; match j, hj with | 0, _ => exact rz | 1, _ => exact ry) (by simp)
                    rw [show ([z, y] : List Int).getD 0 0 = z from rfl, joinTwo, joinOne_swap z y] at this
                    exact this
                  have HCALL := Lib.hid hcall
                  have hw1 : IntKind.i64.wrap ((p2 : Int) + 1) = (p2 : Int) + 1 := by rw [IntKind.wrap_i64]; omega
                  have hpi : (p2 : Int) + 1 < (l.length : Int) := by omega
                  have hp0 : (0 : Int) ≤ (p2 : Int) + 1 := by omega
                  have hp3 : ((p2 : Int) + 1).toNat = p2 + 1 := by omega
                  clear hc4 hcell hy hz ry rz hU2d hI hcall
                  go_wp2_with fail
                  go_region_with ((go_at_call 18; refine HCALL.out.mono ?_; rintro e w3 ⟨rfl, hu3, hb3, hs3, hf3⟩; have H3 := Lib.hid hu3; have B3 := Lib.hid hb3; have S3 := Lib.hid hs3; have F3 := Lib.hid hf3; clear hu3 hb3 hs3 hf3))
                  all_goals
                    go_wp2
                    go_roundg (s - 1)
                    case measure => have := HD0.out; omega
                    case rel =>
                      have hp := HP2.out
                      have hy : l.getD (2 * (s - 1)) 0 = y := by rw [← hp]; exact HY.out.1
                      have hz : l.getD (2 * (s - 1) + 1) 0 = z := by rw [← hp]; exact HY.out.2
                      have r := HR.out
                      have hyl := HYS.out
                      have hwf := HWFY.out
                      have hlo := HU1b.out.own
                      have hge2 := HU2b.out.ge
                      have hlt1 := H1.out.lt
                      have hv1 : ∀ g, v1.ownBlock = some g → g < w1.heap.size := fun g hg => (H1.out.own.lt g hg).2
                      have hv2 : ∀ g, v2.ownBlock = some g → w1.heap.size ≤ g := fun g hg => (HU2b.out.own.lt g hg).1
                      refine ⟨s - 1, (p2 : Int) - 2, (joinOne ys y z).1, rfl, by omega, by omega, rfl, joinOne_wf hwf r.1.1 (by rw [hyl]; exact r.1.2) r.2.1 (by rw [hyl]; exact r.2.2), (joinOne_len ys y z).trans hyl, ?_, H3.out, ?_, ?_, ?_⟩
                      · refine (HU1b.out.alloc (.cells #[.int .i64 z, .int .i64 y] 3)).drew.keep (F3.out b1 (fun e => ?_)) (fun g hg => F3.out g (fun e => ?_))
                        · have := hv2 b1 e; omega
                        · have := hv2 g e; have := hv1 g hg; omega
                      · exact (HBb.out.trans (((Below.refl _ _).alloc HBb.out.size _).drew)).trans (B3.out.mono B1.out.size)
                      · intro u u1 u2
                        exact resp_step hwf hyl HRSb.out hy hz r.1.1 r.1.2 r.2.1 r.2.2 HIN.out (by omega) u (by omega)
                      · exact least_step hwf hyl HLSb.out (by omega) hy hz r.1.1 r.1.2 r.2.1 r.2.2
                · have hs0 : s = 0 := by omega
                  subst hs0
                  have hq2 : q < 0 := by omega
                  have hq3 : decide (0 ≤ q) = false := decide_eq_false (by omega)
                  obtain ⟨wq, rfl⟩ : ∃ wq : World, wq = wr := ⟨_, rfl⟩
                  clear hq hc4
                  go_wp2_with fail
                  refine (classes_yes HU1b.out HWF.out).mono ?_
                  rintro e w5 ⟨rv, vals, rfl, hr5, hb5⟩
                  obtain ⟨ra, rcap, hrv⟩ := ownsRow_shape hr5.own
                  obtain ⟨L, hL⟩ : ∃ L, (clss xs).length = L := ⟨_, rfl⟩
                  rw [hr5.len, hL] at hrv
                  subst hrv
                  have HL1 := Lib.hid hL
                  have R5 := Lib.hid hr5; have B5 := Lib.hid hb5; have HU1c := Lib.hid (HU1b.out.below hb5); have HU2c := Lib.hid (HU2b.out.below hb5); clear hr5 hb5
                  go_wp2_with fail
                  refine (classes_yes HU2c.out HWFY.out).mono ?_
                  rintro e w6 ⟨rv2, vals2, rfl, hr6, hb6⟩
                  have hsame : clss ys = clss xs := (clss_congr (HXS.out.trans HYS.out.symm) (same_end HWF.out HWFY.out HXS.out HYS.out HRS.out HRSb.out HLS.out HLSb.out) HWF.out HWFY.out).symm
                  rw [hsame] at hr6
                  obtain ⟨ra2, rcap2, hrv2⟩ := ownsRow_shape hr6.own
                  rw [hr6.len, hL] at hrv2
                  subst hrv2
                  have hLk : (L : Int) = (k : Int) - f := by have := HCT.out; rw [← hL, clss_len]; omega
                  have t5 : ((L : Int) != (k : Int) - f) = false := by simp; omega
                  have hL40 : L ≤ 40 := by omega
                  have R6 := Lib.hid hr6; have B6 := Lib.hid hb6; have HU1d := Lib.hid (HU1c.out.below hb6); have R56 := Lib.hid (R5.out.below hb6)
                  clear hr6 hb6 hsame hL hLk
                  have hsum := sum_cls HWF.out
                  rw [HXS.out] at hsum
                  have HSUM := Lib.hid hsum; clear hsum
                  go_wp2_with fail
                  go_loopw [17, 18] (fun t17 t18 wr => ∃ (i S : Nat), i ≤ L ∧ S = (((clss xs).take i).map List.length).sum ∧ t17 = .int .i64 S ∧ t18 = .int .i64 i ∧ Below w6.heap.size w6 wr) (fun _ t18 _ => L - (intOf t18).toNat)
                  case atStart => exact ⟨0, 0, by omega, by simp, rfl, rfl, Below.refl _ _⟩
                  case round =>
                    obtain ⟨i, S, hi, hS, rfl, rfl, hb7⟩ := hrel
                    have HS := Lib.hid hS; have HB7 := Lib.hid hb7
                    have hS40 : S ≤ 40 := by
                      have := sum_take_le (clss xs) i
                      rw [← hS, HSUM.out] at this; omega
                    clear hS hb7
                    by_cases hlt : i < L
                    · have hi1 : i < (clss xs).length := by rw [HL1.out]; exact hlt
                      have hat := clss_at HWF.out i hi1
                      rw [HXS.out] at hat
                      obtain ⟨h, hh⟩ : ∃ h, (heads xs).getD i 0 = h := ⟨_, rfl⟩
                      obtain ⟨n1, hn1⟩ : ∃ n1, ((clss xs).getD i []).length = n1 := ⟨_, rfl⟩
                      have hn40 : n1 ≤ 41 := by
                        have := cls_len xs h
                        rw [← hn1, hat.2.2.2, hh]; have := HXS.out; omega
                      have HAT := Lib.hid (And.intro hat (And.intro hh hn1))
                      have hr1 := R56.out.below HB7.out
                      have hr2 := R6.out.below HB7.out
                      have hu7 := HU1d.out.below HB7.out
                      obtain ⟨gg1, c1, e1, hc1⟩ := rows_cell hr1 (by omega)
                      obtain ⟨gg2, c2, e2, hc2⟩ := rows_cell hr2 (by omega)
                      simp only [Value.slice.injEq] at e1 e2
                      obtain ⟨rfl, -, rfl⟩ := e1
                      obtain ⟨rfl, -, rfl⟩ := e2
                      obtain ⟨ax, cx, hx, ex⟩ := hc1 i hi1
                      obtain ⟨ay, cy, hy, ey⟩ := hc2 i hi1
                      have i1 := ownsRow_ints (hr1.row i hi1) (clss_short HWF.out i hi1)
                      have i2 := ownsRow_ints (hr2.row i hi1) (clss_short HWF.out i hi1)
                      rw [ex, hn1] at i1
                      rw [ey, hn1] at i2
                      rw [hn1] at hx hy
                      have hq := fun n => sameInts_q _ _ i1 i2 n
                      rw [show sameL ((clss xs).getD i []) ((clss xs).getD i []) = true from decide_eq_true rfl] at hq
                      have hsm : sameB xs ((clss xs).getD i []) = true := by
                        rw [hat.2.2.2]; exact sameB_all HWF.out hat.1 (by rw [HXS.out]; exact hat.2.1)
                      have hq2 := fun n => same_q hu7 HWF.out _ _ i1 n
                      rw [hsm] at hq2
                      have HQ := Lib.hid (And.intro hq hq2)
                      have hiL : (i : Int) < (L : Int) := by omega
                      obtain ⟨wo, rfl⟩ : ∃ wo : World, wo = wr := ⟨_, rfl⟩
                      clear hi1 hat hh hn1 hr1 hr2 hu7 hc1 hc2 ex ey i1 i2 hq hsm hq2
                      go_wp2
                      go_quiet ((first | (go_at_call 20; exact HQ.out.1 _) | (go_at_call 21; exact HQ.out.2 _)))
                      go_wp2
                      go_loopw [19] (fun t19 wr => ∃ q : Nat, q ≤ n1 ∧ t19 = .int .i64 q ∧ Below w6.heap.size w6 wr) (fun t19 _ => n1 - (intOf t19).toNat)
                      case atStart => exact ⟨0, by omega, rfl, HB7.out.trans ⟨rfl, rfl, rfl, Nat.le_refl _, fun _ _ => rfl⟩⟩
                      case round =>
                        obtain ⟨qq, hqn, rfl, hb8⟩ := hrel
                        have HB8 := Lib.hid hb8; clear hb8
                        clear hx hy
                        have hi1 : i < (clss xs).length := by rw [HL1.out]; exact hlt
                        have hr1 := R56.out.below HB8.out
                        have hu8 := HU1d.out.below HB8.out
                        obtain ⟨hat, hh, hn1⟩ := HAT.out
                        obtain ⟨g8, c8, e1, hc1⟩ := rows_cell hr1 (by omega)
                        simp only [Value.slice.injEq, Option.some.injEq, Addr.mk.injEq, and_true] at e1
                        obtain ⟨e1, -⟩ := e1
                        subst e1
                        obtain ⟨ax2, cx2, hx, ex⟩ := hc1 i hi1
                        have i1 := ownsRow_ints (hr1.row i hi1) (clss_short HWF.out i hi1)
                        rw [ex, hn1] at i1
                        rw [hn1] at hx
                        by_cases hlt8 : qq < n1
                        · obtain ⟨a9, cap9, e9, -, hc9⟩ := i1
                          simp only [Value.slice.injEq] at e9
                          obtain ⟨rfl, -, rfl⟩ := e9
                          obtain ⟨xg, xo, rfl, hcell⟩ := hc9 (by omega)
                          have hyc := hcell qq (by omega)
                          have hhc := hcell 0 (by omega)
                          rw [Nat.add_zero] at hhc
                          have hget := cls_get HWF.out hat.1 (by rw [HXS.out]; exact hat.2.1) qq (by rw [← hat.2.2.2]; omega)
                          rw [← hat.2.2.2, hat.2.2.1, hh, HXS.out] at hget
                          have h00 : ((clss xs).getD i []).getD 0 0 = h := by
                            rw [hat.2.2.2]
                            obtain ⟨tl, htl⟩ := cls_head HWF.out hat.1 (by rw [HXS.out]; exact hat.2.1)
                            rw [htl, hat.2.2.1, hh]; rfl
                          rw [h00] at hhc
                          obtain ⟨y, hy⟩ : ∃ y, ((clss xs).getD i []).getD qq 0 = y := ⟨_, rfl⟩
                          rw [hy] at hyc hget
                          have hhead := fun (W : World) (hW : UfAt W w.heap.size b1 v1 xs) (n : Nat) => head_q hW HWF.out n y hget.1 (by rw [HXS.out]; exact hget.2.1)
                          rw [hget.2.2] at hhead
                          have HH := Lib.hid (And.intro hhead (And.intro hget h00))
                          have HU8 := Lib.hid hu8
                          have HR1 := Lib.hid hr1
                          have hqn1 : (qq : Int) < (n1 : Int) := by omega
                          have hne : (h != h) = false := by simp
                          clear hhead hget h00 hy hc9 hcell hat hh hn1 hr1 hu8 ex
                          by_cases hi0 : i = 0
                          · have f1 : decide (0 < (i : Int)) = false := decide_eq_false (by omega)
                            have f2 : decide (0 < i) = false := decide_eq_false (by omega)
                            have HI0 := Lib.hid hi0
                            clear hi0 hi1 hc1
                            go_wp2_with fail
                            go_quiet ((go_at_call 22; exact HH.out.1 _ HU8.out _))
                            go_wp2
                            go_roundw
                            case rel => exact ⟨qq + 1, by omega, by go_num, HB8.out.trans ⟨rfl, rfl, rfl, Nat.le_refl _, fun _ _ => rfl⟩⟩
                            case measure => simp [intOf]; omega
                          · obtain ⟨ip, hip⟩ : ∃ ip, i = ip + 1 := ⟨i - 1, by omega⟩
                            have hj1 : ip < (clss xs).length := by omega
                            have hat2 := clss_at HWF.out ip hj1
                            rw [HXS.out] at hat2
                            have hlt2 := heads_lt (xs := xs) ip i (by omega) hi1
                            obtain ⟨ay2, cy2, hz, ez⟩ := hc1 ip hj1
                            have i3 := ownsRow_ints (HR1.out.row ip hj1) (clss_short HWF.out ip hj1)
                            obtain ⟨tl, htl⟩ := cls_head HWF.out hat2.1 (by rw [HXS.out]; exact hat2.2.1)
                            obtain ⟨h2, hh2⟩ : ∃ h2, (heads xs).getD ip 0 = h2 := ⟨_, rfl⟩
                            have h01 : ((clss xs).getD ip []).getD 0 0 = h2 := by
                              rw [hat2.2.2.2, htl, hat2.2.2.1, hh2]; rfl
                            have hlen2 : 0 < ((clss xs).getD ip []).length := by rw [hat2.2.2.2, htl]; simp
                            rw [ez] at i3
                            obtain ⟨a9, cap9, e9, -, hc9⟩ := i3
                            simp only [Value.slice.injEq] at e9
                            obtain ⟨rfl, -, rfl⟩ := e9
                            obtain ⟨pg, po, rfl, hcell⟩ := hc9 hlen2
                            have hpc := hcell 0 hlen2
                            rw [Nat.add_zero, h01] at hpc
                            obtain ⟨n2, hn2⟩ : ∃ n2, ((clss xs).getD ip []).length = n2 := ⟨_, rfl⟩
                            rw [hn2] at hz hlen2
                            rw [hh2, HAT.out.2.1] at hlt2
                            rw [hh2] at hat2
                            have hget := HH.out.2.1
                            have hsame : sameB xs [y, h2] = false := by
                              simp only [sameB, List.all_cons, List.all_nil, Bool.and_true, okB, List.getD_cons_zero, hget.2.2, hat2.2.2.1]
                              simp; intros; omega
                            have hU : UfAt (wr.alloc (.cells #[.int .i64 y, .int .i64 h2] 3)).drew w.heap.size b1 v1 xs := (HU8.out.alloc _).drew
                            have hI : IntsAt (wr.alloc (.cells #[.int .i64 y, .int .i64 h2] 3)).drew (.slice (some ⟨wr.heap.size, 0, none⟩) 2 2) [y, h2] := (ints_built wr [y, h2] (by simp)).drew
                            have hcall := same_any hU HWF.out _ [y, h2] hI
                            rw [hsame] at hcall
                            have HCALL := Lib.hid hcall
                            have hhd1 : Calls Try.prog 22 #[.pointer (some ⟨b1, 0, none⟩), .int .i64 y] wr.drew (Ret (.int .i64 h) wr.drew) := by
                              have := head_yes HU8.out.drew HWF.out y hget.1 (by rw [HXS.out]; exact hget.2.1)
                              rwa [hget.2.2] at this
                            have HHD := Lib.hid hhd1
                            have w1' : IntKind.i64.wrap ((i : Int) - 1) = (ip : Int) := by rw [IntKind.wrap_i64]; omega
                            have f1 : decide (0 < (i : Int)) = true := decide_eq_true (by omega)
                            have f2 : decide (0 < i) = true := decide_eq_true (by omega)
                            have f3 : (i : Int) < (L : Int) := by omega
                            have f4 : (ip : Int) < (L : Int) := by omega
                            have f5 : 0 < n1 := by omega
                            have f6 : 0 < n2 := by omega
                            have l1 := World.block_lt_of_cell? wr _ hx
                            have l2 := World.block_lt_of_cell? wr _ hyc
                            have l3 := World.block_lt_of_cell? wr _ hpc
                            simp only at l1 l2 l3
                            clear hi0 hip hj1 hat2 hlt2 ez hc9 hcell htl hh2 h01 hn2 hget hsame hU hI hcall hhd1 hi1 hc1
                            go_wp2_with fail
                            go_region_held3 (fun w' => w'.cell? ⟨gg1, i, none⟩ = some (.slice (some ⟨xg, xo, none⟩) n1 cx2) ∧ w'.cell? ⟨xg, xo + qq, none⟩ = some (.int .i64 y) ∧ w'.cell? ⟨xg, xo, none⟩ = some (.int .i64 h) ∧ w'.cell? ⟨gg1, ip, none⟩ = some (.slice (some ⟨pg, po, none⟩) n2 cy2) ∧ w'.cell? ⟨pg, po, none⟩ = some (.int .i64 h2)) (go_keep) ((first | (go_at_call 22; refine HHD.out.mono ?_; rintro e w8 ⟨rfl, rfl⟩) | (go_at_call 21; refine HCALL.out.mono ?_; rintro e w8 ⟨rfl, nn, rfl⟩)))
                            all_goals
                              go_wp2
                              go_roundw
                              case rel => exact ⟨qq + 1, by omega, by go_num, (HB8.out.trans (((Below.refl _ wr).alloc HB8.out.size _).drew)).trans ⟨rfl, rfl, rfl, Nat.le_refl _, fun _ _ => rfl⟩⟩
                              case measure => simp [intOf]; omega
                        · obtain rfl : qq = n1 := by omega
                          clear hlt8 i1 hc1 ex
                          go_wp2
                          go_roundw
                          case rel =>
                            refine ⟨i + 1, S + qq, by omega, ?_, by go_num, by go_num, HB8.out⟩
                            rw [sum_take _ _ hi1, ← HS.out, hn1]
                          case measure => simp [intOf]; omega
                    · obtain rfl : i = L := by omega
                      have hSk : (S : Int) = (k : Int) := by
                        have := HS.out
                        rw [List.take_of_length_le (by rw [HL1.out]; exact Nat.le_refl _), HSUM.out] at this; omega
                      have t6 : ((S : Int) == (k : Int)) = true := by simp; omega
                      have HA := Lib.hid (alive_any wr)
                      clear hlt hSk
                      go_wp2_with (go_at_call 16; refine HA.out.mono ?_; rintro e w9 ⟨rfl, hb9⟩; have HB9 := Lib.hid hb9; clear hb9)
                      go_ret
                      have d5 : Below w.heap.size w w5 := HBb.out.trans (B5.out.mono HBb.out.size)
                      have d6 : Below w.heap.size w w6 := d5.trans (B6.out.mono d5.size)
                      have d7 : Below w.heap.size w wr := d6.trans (HB7.out.mono d6.size)
                      exact ⟨rfl, d7.trans (HB9.out.mono d7.size)⟩
    · obtain ⟨k0, hk0, hout⟩ : ∃ k0, k0 < l.length ∧ (l.getD k0 0 < 1 ∨ (k : Int) < l.getD k0 0) := by
        apply Classical.byContradiction
        intro hno
        apply hin
        intro j hj
        apply Classical.byContradiction
        intro h2
        exact hno ⟨j, hj, by omega⟩
      clear hin
      have HO := Lib.hid hout; clear hout
      go_wp2_with fail
      go_loop [9] (fun t => ∃ j : Nat, j ≤ k0 ∧ t = .int .i64 j) (fun t => l.length - (intOf t).toNat)
      case atStart => exact ⟨0, by omega, rfl⟩
      case round =>
        obtain ⟨j, hj, rfl⟩ := hrel
        have hlt : j < l.length := by omega
        obtain ⟨g, o, rfl, hcell⟩ := HC2.out (by omega)
        have hck := hcell j hlt
        clear hcell
        have ho : j = k0 → l.getD j 0 < 1 ∨ (k : Int) < l.getD j 0 := fun e => by rw [e]; exact HO.out
        obtain ⟨y, hy⟩ : ∃ y, l.getD j 0 = y := ⟨_, rfl⟩
        rw [hy] at hck ho
        clear hy
        by_cases hr : 1 ≤ y ∧ y ≤ (k : Int)
        · obtain ⟨r1, r2⟩ := hr
          have hj' : j < k0 := by
            rcases Nat.lt_or_ge j k0 with h' | h'
            · exact h'
            · have := ho (by omega); omega
          clear ho
          go_wp2
          go_round
          case rel => exact ⟨j + 1, by omega, by go_num⟩
          case measure => simp [intOf]; omega
        · clear ho
          have HA := Lib.hid (alive_any w2)
          by_cases h1 : y < 1
          · go_wp2_with (go_at_call 16; refine HA.out.mono ?_; rintro e w' ⟨rfl, hb⟩)
            go_ret
            exact ⟨rfl, C2.out.trans (hb.mono C2.out.size)⟩
          · have h2 : (k : Int) < y := by omega
            clear hr
            go_wp2_with (go_at_call 16; refine HA.out.mono ?_; rintro e w' ⟨rfl, hb⟩)
            go_ret
            exact ⟨rfl, C2.out.trans (hb.mono C2.out.size)⟩
end Go.Proofs.Ytoiikbomdlnjlaa.Uf
