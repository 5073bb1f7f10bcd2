/- Proved: the walk of the law UfGrows: new numbers are classes of their own, and the others stay. -/
import Derived.Test.YtoiikbomdlnjlaaUf6
set_option linter.unusedVariables false
set_option linter.unusedSimpArgs false
namespace Go.Proofs.Ytoiikbomdlnjlaa.Uf
open Go.RowKit

theorem below_lt {w w' : World} {B : Nat} (h : Below B w w') : w.heap.size ≤ w'.heap.size := h.size
theorem getD_app_left (a b : List (List Int)) (k : Nat) (h : k < a.length) : (a ++ b).getD k [] = a.getD k [] := by
  simp only [List.getD_eq_getElem?_getD]; rw [List.getElem?_append_left h]
theorem cls_len (xs : List Int) (i : Int) : (cls xs i).length ≤ xs.length + 1 := by
  unfold cls
  have := clsF_len xs (hd xs i) (xs.length + 1 - (hd xs i).toNat) (hd xs i)
  omega
theorem clss_all {xs : List Int} (hw : Wf xs) (k : Nat) (hk : k < (clss xs).length) : ∃ h : Int, 1 ≤ h ∧ h ≤ xs.length ∧ hd xs h = h ∧ (clss xs).getD k [] = cls xs h := by
  have e : (clss xs).getD k [] ∈ clss xs := by
    rw [List.getD_eq_getElem?_getD, List.getElem?_eq_getElem hk]; exact List.getElem_mem hk
  rw [clss_eq] at e
  obtain ⟨h, hm, he⟩ := List.mem_map.1 e
  have hm2 := List.mem_filter.1 hm
  have hm3 := mem_rangeI.1 hm2.1
  rw [← clss_eq] at he
  exact ⟨h, by omega, by omega, by simpa using hm2.2, he.symm⟩
theorem clss_short {xs : List Int} (hw : Wf xs) (k : Nat) (hk : k < (clss xs).length) : ((clss xs).getD k []).length ≤ 1000000000 := by
  obtain ⟨h, _, _, _, e⟩ := clss_all hw k hk
  have := cls_len xs h
  have := hw.len
  rw [e]; omega
theorem clss_le {xs : List Int} : (clss xs).length ≤ xs.length := by
  rw [clss_len]; unfold heads
  have := List.length_filter_le (fun x => decide (hd xs x = x)) (rangeI 1 xs.length)
  rw [rangeI_len] at this; exact this

set_option maxHeartbeats 6400000 in
theorem ufGrows_walk (w : World) (n : Int) (hn : -9223372036854775808 ≤ n ∧ n ≤ 9223372036854775807) (m : Int) (hm : -9223372036854775808 ≤ m ∧ m ≤ 9223372036854775807)
    (lv : Value) (l : List Int) (hl : ArgInts w lv l) :
    Calls Try.prog 9 #[.int .i64 n, .int .i64 m, lv] w fun e w' => e = .returned (.bool true) ∧ Below w.heap.size w w' := by
  obtain ⟨hn1, hn2⟩ := hn
  obtain ⟨hm1, hm2⟩ := hm
  have HL := Lib.hid hl; clear hl
  obtain ⟨a, cap, hv, hlm, hc⟩ := HL.out.ints
  subst hv
  clear hc
  have HA := Lib.hid (alive_any w)
  by_cases hg : n < 0 ∨ (0 ≤ n ∧ 30 < n) ∨ (0 ≤ n ∧ n ≤ 30 ∧ m < n) ∨ (0 ≤ n ∧ n ≤ 30 ∧ n ≤ m ∧ 60 < m) ∨ (0 ≤ n ∧ n ≤ 30 ∧ n ≤ m ∧ m ≤ 60 ∧ 20 < (l.length : Int))
  · rcases hg with g1 | ⟨g1, g2⟩ | ⟨g1, g2, g3⟩ | ⟨g1, g2, g3, g4⟩ | ⟨g1, g2, g3, g4, g5⟩
    all_goals
      go_enter Try.func9, Try.ntmps9
      go_wp2_with (go_at_call 16; refine HA.out.mono ?_; rintro e w' ⟨rfl, hb⟩)
      go_ret
      exact ⟨rfl, hb⟩
  · clear HA
    obtain ⟨k, rfl⟩ : ∃ k : Nat, n = (k : Int) := ⟨n.toNat, by omega⟩
    obtain ⟨q, rfl⟩ : ∃ q : Nat, m = (q : Int) := ⟨m.toNat, by omega⟩
    have g1 : (k : Int) ≤ 30 := by omega
    have g2 : (k : Int) ≤ (q : Int) := by omega
    have g3 : (q : Int) ≤ 60 := by omega
    have g4 : (l.length : Int) ≤ 20 := by omega
    clear hg hn1 hn2 hm1 hm2
    have t0 : decide ((k : Int) < 0) = false := decide_eq_false (by omega)
    have t1 : decide (30 < (k : Int)) = false := decide_eq_false (by omega)
    have t2 : decide ((q : Int) < (k : Int)) = false := decide_eq_false (by omega)
    have t2' : decide (q < k) = false := decide_eq_false (by omega)
    have t3 : decide (60 < (q : Int)) = false := decide_eq_false (by omega)
    have t4 : decide (20 < (l.length : Int)) = false := decide_eq_false (by omega)
    have hnew := new_yes w k (by omega)
    go_enter Try.func9, Try.ntmps9
    go_wp2_with fail
    refine hnew.mono ?_
    rintro e w1 ⟨b, v, rfl, hu1, hb1⟩
    have H1 := Lib.hid hu1; have B1 := Lib.hid hb1; clear hu1 hb1 hnew
    go_wp2_with fail
    have hl1 : IntsAt w1 (.slice a l.length cap) l := HL.out.ints.below B1.out HL.out.lt
    have hj := join_any H1.out (growTo_wf wf_nil k (by simp) (by omega)) _ l hl1 (fun h0 g hg e => by have := HL.out.lt h0 g hg; have := (H1.out.own.lt g e).1; omega) (by omega)
    refine hj.mono ?_
    rintro e w2 ⟨x, y, ys, rfl, hwf, hys, hu2, hb2, hs2, hf2⟩
    clear hj hl1
    rw [growTo_len [] k (by simp)] at hys
    have HYS := Lib.hid hys; have H2 := Lib.hid hu2; have B2 := Lib.hid hb2; have S2 := Lib.hid hs2; have HWF := Lib.hid hwf
    clear hys hu2 hb2 hs2 hf2 hwf
    go_wp2_with fail
    refine (classes_yes H2.out HWF.out).mono ?_
    rintro e w3 ⟨rv, vals, rfl, hr3, hb3⟩
    obtain ⟨ra, rcap, hrv⟩ := ownsRow_shape hr3.own
    obtain ⟨L1, hL1⟩ : ∃ L1, (clss ys).length = L1 := ⟨_, rfl⟩
    rw [hr3.len, hL1] at hrv
    subst hrv
    have HL1 := Lib.hid hL1
    have R3 := Lib.hid hr3; have B3 := Lib.hid hb3; have H3 := Lib.hid (H2.out.below hb3); clear hr3 hb3
    go_wp2_with fail
    refine (grow_yes H3.out q (by have := HYS.out; omega) (by omega)).mono ?_
    rintro e w4 ⟨rfl, v4, hu4, hb4, hf4⟩
    have H4 := Lib.hid hu4; have B4 := Lib.hid hb4; have F4 := Lib.hid hf4; clear hu4 hb4 hf4
    go_wp2_with fail
    have hwf4 := growTo_wf HWF.out q (by have := HYS.out; omega) (by omega)
    refine (classes_yes H4.out hwf4).mono ?_
    have HWF4 := Lib.hid hwf4; clear hwf4
    rintro e w5 ⟨rv2, vals2, rfl, hr5, hb5⟩
    obtain ⟨ra2, rcap2, hrv2⟩ := ownsRow_shape hr5.own
    obtain ⟨L2, hL2⟩ : ∃ L2, (clss (growTo ys q)).length = L2 := ⟨_, rfl⟩
    rw [hr5.len, hL2] at hrv2
    subst hrv2
    have HL2 := Lib.hid hL2
    have hnum : (L2 : Int) = L1 + q - k := by
      rw [← hL2, ← hL1]
      rw [clss_grow HWF.out q (by have := HYS.out; omega) (by omega), List.length_append, List.length_map, rangeI_len, HYS.out]; omega
    have hlen5 : (growTo ys q).length = q := growTo_len ys q (by have := HYS.out; omega)
    have H5 := Lib.hid (H4.out.below hb5)
    have R5 := Lib.hid hr5; have B5 := Lib.hid hb5; clear hr5 hb5
    -- the old lists in the new memory
    have hr34 : RowsAt w4 w2.heap.size (.slice ra L1 rcap) (clss ys) vals :=
      R3.out.keep fun g h1 h2 => F4.out g h2 (by have := H2.out.lt; omega) (fun e => by have := (H2.out.own.lt g e).2; omega)
    have hr35 : RowsAt w5 w2.heap.size (.slice ra L1 rcap) (clss ys) vals :=
      hr34.keep fun g h1 h2 => B5.out.block g h2
    have R35 := Lib.hid hr35; clear hr35 hr34
    have hle := clss_le (xs := ys)
    have hle2 := clss_le (xs := growTo ys q)
    rw [hlen5, hL2] at hle2
    rw [HYS.out, hL1] at hle
    clear hL1 hL2
    have hlen := len_any H5.out (by rw [hlen5]; omega)
    rw [hlen5] at hlen
    have t5 : ((L2 : Int) != (L1 : Int) + (q : Int) - (k : Int)) = false := by simp; omega
    have hLk : (k : Int) ≤ (L1 : Int) + (q : Int) := by omega
    have NUM := Lib.hid hnum; have LEN5 := Lib.hid hlen5; clear hnum hlen5
    go_wp2_with (go_at_call 25; refine hlen.mono ?_; rintro e w' ⟨rfl, rfl⟩)
    clear hlen
    go_loopw [11] (fun t wr => ∃ j : Nat, j ≤ L1 ∧ t = .int .i64 j ∧ ∃ n, wr = w5.drewN n) (fun t _ => L1 - (intOf t).toNat)
    case atStart => exact ⟨0, by omega, rfl, 0, rfl⟩
    case round =>
      obtain ⟨j, hj, rfl, nd, hw⟩ := hrel
      have HW := Lib.hid hw; clear hw
      by_cases hlt : j < L1
      · have hr1 := R35.out
        have hr2 := R5.out
        have hj1 : j < (clss ys).length := by rw [HL1.out]; exact hlt
        have hj2 : j < (clss (growTo ys q)).length := by rw [HL2.out]; have := NUM.out; omega
        obtain ⟨gg1, c1, e1, hc1⟩ := rows_cell hr1 (by omega)
        obtain ⟨gg2, c2, e2, hc2⟩ := rows_cell hr2 (by omega)
        simp only [Value.slice.injEq] at e1 e2
        obtain ⟨rfl, -, rfl⟩ := e1
        obtain ⟨rfl, -, rfl⟩ := e2
        obtain ⟨ax, cx, hx, ex⟩ := hc1 j hj1
        obtain ⟨ay, cy, hy, ey⟩ := hc2 j hj2
        have i1 := ownsRow_ints (hr1.row j hj1) (clss_short HWF.out j hj1)
        have i2 := ownsRow_ints (hr2.row j hj2) (clss_short HWF4.out j hj2)
        rw [ex] at i1
        rw [ey] at i2
        have hsame : sameL ((clss (growTo ys q)).getD j []) ((clss ys).getD j []) = true := by
          rw [clss_grow HWF.out q (by have := HYS.out; omega) (by omega), getD_app_left _ _ _ hj1]
          exact decide_eq_true rfl
        have hq := fun n => sameInts_q _ _ (i2.drewN nd) (i1.drewN nd) n
        rw [hsame] at hq
        rw [← HW.out] at hq
        have hx' : wr.cell? ⟨gg1, j, none⟩ = some (.slice ax ((clss ys).getD j []).length cx) := by rw [HW.out]; exact hx
        have hy' : wr.cell? ⟨gg2, j, none⟩ = some (.slice ay ((clss (growTo ys q)).getD j []).length cy) := by rw [HW.out]; exact hy
        have hltI : (j : Int) < (L2 : Int) := by have := NUM.out; omega
        have HQ := Lib.hid hq
        obtain ⟨n1, hn1⟩ : ∃ n1, ((clss ys).getD j []).length = n1 := ⟨_, rfl⟩
        obtain ⟨n2, hn2⟩ : ∃ n2, ((clss (growTo ys q)).getD j []).length = n2 := ⟨_, rfl⟩
        rw [hn1] at hx'
        rw [hn2] at hy'
        clear hr1 hr2 hj1 hj2 hc1 hc2 hx hy ex ey i1 i2 hsame hq
        have HN := Lib.hid (And.intro hn1 hn2); clear hn1 hn2
        go_wp2
        go_quiet ((go_at_call 20; have hh := HQ.out; rw [HN.out.1, HN.out.2] at hh; exact hh _))
        go_wp2
        go_roundw
        case rel => exact ⟨j + 1, by omega, by go_num, nd + nq, by rw [HW.out]; exact World.drewN_drewN _ _ _⟩
        case measure => simp [intOf]; omega
      · obtain rfl : j = L1 := by omega
        obtain ⟨wo, rfl⟩ : ∃ wo : World, wo = wr := ⟨_, rfl⟩
        have B5r : Below w.heap.size w5 wo := by rw [HW.out]; exact ⟨rfl, rfl, rfl, Nat.le_refl _, fun _ _ => rfl⟩
        have HB5r := Lib.hid B5r; clear B5r
        have H6 : UfAt wo w.heap.size b v4 (growTo ys q) := by rw [HW.out]; exact H5.out.drewN nd
        have HH6 := Lib.hid H6; clear H6
        go_wp2
        go_loopw [12] (fun t wr => ∃ i : Nat, k + 1 ≤ i ∧ i ≤ q + 1 ∧ t = .int .i64 i ∧ Below wo.heap.size wo wr) (fun t _ => q + 1 - (intOf t).toNat)
        case atStart => exact ⟨k + 1, by omega, by omega, by go_num, Below.refl _ _⟩
        case round =>
          obtain ⟨i, i1, i2, rfl, hb6⟩ := hrel
          have HB6 := Lib.hid hb6; clear hb6
          have hu6 := HH6.out.below HB6.out
          by_cases hlt : i ≤ q
          · have hh := head_yes hu6 HWF4.out (i : Int) (by omega) (by rw [LEN5.out]; omega)
            have hcl := class_yes hu6 HWF4.out (i : Int) (by omega) (by rw [LEN5.out]; omega)
            have e1 : hd (growTo ys q) (i : Int) = (i : Int) := by
              have := growTo_hd HWF.out q (by have := HYS.out; omega) (by omega) _ (i : Int) (Nat.le_refl _) (by omega) (by omega)
              rwa [if_neg (by have := HYS.out; omega)] at this
            have e2 : cls (growTo ys q) (i : Int) = [(i : Int)] := cls_grow_new HWF.out q (by have := HYS.out; omega) (by omega) (by have := HYS.out; omega) (by omega)
            rw [e1] at hh
            rw [e2] at hcl
            have HCL := Lib.hid hcl
            have hltI : (i : Int) ≤ (q : Int) := by omega
            clear e1 e2 hcl
            go_wp2_with (first | (go_at_call 22; refine hh.mono ?_; rintro e w' ⟨rfl, rfl⟩) | (go_at_call 23; refine HCL.out.mono ?_; rintro e w7 ⟨cv, rfl, hcv, hcb⟩; obtain ⟨ca, cc, hcs⟩ := ownsRow_shape hcv; simp only [List.length_cons, List.length_nil, Nat.zero_add] at hcs; subst hcs; have HCB := Lib.hid hcb; clear hcv hcb))
            go_roundw
            case rel => exact ⟨i + 1, by omega, by omega, by go_num, HB6.out.trans (HCB.out.mono HB6.out.size)⟩
            case measure => simp [intOf]; omega
          · obtain rfl : i = q + 1 := by omega
            have HA := Lib.hid (alive_any wr)
            have hltI : ¬ ((q : Int) + 1 ≤ (q : Int)) := by omega
            go_wp2_with (go_at_call 16; refine HA.out.mono ?_; rintro e w' ⟨rfl, hb⟩)
            go_ret
            have c1 := B1.out
            have c2 : Below w.heap.size w w2 := c1.trans B2.out
            have c3 : Below w.heap.size w w3 := c2.trans (B3.out.mono c2.size)
            have c4 : Below w.heap.size w w4 := c3.trans B4.out
            have c5 : Below w.heap.size w w5 := c4.trans (B5.out.mono c4.size)
            have c6 : Below w.heap.size w wo := c5.trans HB5r.out
            have c7 : Below w.heap.size w wr := c6.trans (HB6.out.mono c6.size)
            exact ⟨rfl, c7.trans (hb.mono c7.size)⟩
end Go.Proofs.Ytoiikbomdlnjlaa.Uf
