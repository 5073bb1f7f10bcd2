/- Proved: contracts of package uf's Classes and Join, and of the statements' helper SameInts. -/
import Derived.Test.YtoiikbomdlnjlaaUf2
set_option linter.unusedVariables false
set_option linter.unusedSimpArgs false
namespace Go.Proofs.Ytoiikbomdlnjlaa.Uf
open Go.RowKit

theorem ownsRow_set {w : World} {B : Nat} {e : TypeId} {g n cap : Nat} {xs : List Value} (h : w.ownsRow B e 1 (.slice (some ⟨g, 0, none⟩) n cap) n xs) (k : Nat) (hk : k < n) (u : Value) :
    (w.setCell ⟨g, k, none⟩ u).ownsRow B e 1 (.slice (some ⟨g, 0, none⟩) n cap) n (xs.set k u) := by
  obtain ⟨h1, h2⟩ := h
  refine ⟨by simpa using h1, ?_⟩
  rcases h2 with ⟨h2, _⟩ | ⟨g', cap', cur, e1, hb, hg, hle, hm, hs, ht⟩
  · simp at h2
  · simp at e1
    obtain ⟨rfl, rfl⟩ := e1
    refine .inr ⟨g, cap, cur.setIfInBounds k u, rfl, hb, ?_, hle, hm, by simpa using hs, ?_⟩
    · simp [World.setCell, Array.getElem?_modify, hg]
    · rw [Array.toList_setIfInBounds, List.take_set, ht]
theorem UfAt.setCell {w : World} {B b g cap : Nat} {xs : List Int} (h : UfAt w B b (.slice (some ⟨g, 0, none⟩) xs.length cap) xs) (k : Nat) (hk : k < xs.length) (u : Int) :
    UfAt (w.setCell ⟨g, k, none⟩ (.int .i64 u)) B b (.slice (some ⟨g, 0, none⟩) xs.length cap) (xs.set k u) := by
  have hne : g ≠ b := by have := h.ne; simpa [Value.ownBlock] using this
  refine ⟨h.ge, (Below.heap_setCell w _ _ b (Ne.symm hne)).trans h.blk, ?_, h.ne⟩
  have := ownsRow_set h.own k hk (.int .i64 u)
  rw [List.length_set, List.map_set]
  exact this

/-- one step of a join -/
def joinOne (xs : List Int) (l0 i : Int) : List Int × Int :=
  if hd xs l0 = hd xs i then (xs, 0) else (xs.set ((max (hd xs l0) (hd xs i)) - 1).toNat (min (hd xs l0) (hd xs i)), 1)
def joinAll (l0 : Int) : List Int → List Int → List Int × Int
  | [], xs => (xs, 0)
  | i :: l, xs => ((joinAll l0 l (joinOne xs l0 i).1).1, (joinOne xs l0 i).2 + (joinAll l0 l (joinOne xs l0 i).1).2)
theorem joinOne_len (xs : List Int) (l0 i : Int) : (joinOne xs l0 i).1.length = xs.length := by unfold joinOne; split <;> simp
theorem joinOne_num (xs : List Int) (l0 i : Int) : 0 ≤ (joinOne xs l0 i).2 ∧ (joinOne xs l0 i).2 ≤ 1 := by unfold joinOne; split <;> simp
theorem joinOne_wf {xs : List Int} (h : Wf xs) {l0 i : Int} (a1 : 1 ≤ l0) (a2 : l0 ≤ xs.length) (b1 : 1 ≤ i) (b2 : i ≤ xs.length) : Wf (joinOne xs l0 i).1 := by
  unfold joinOne
  split
  · exact h
  · have ra := hd_range h _ l0 (Nat.le_refl _) a1 a2
    have rb := hd_range h _ i (Nat.le_refl _) b1 b2
    generalize hd xs l0 = p at *
    generalize hd xs i = q at *
    refine ⟨by simpa using h.len, ?_, ?_⟩
    · intro j hj
      simp only [List.length_set] at hj
      simp only [List.getD_eq_getElem?_getD, List.getElem?_set]
      split
      · split
        · simp; omega
        · omega
      · have := h.lo j hj; rwa [List.getD_eq_getElem?_getD] at this
    · intro j hj
      simp only [List.length_set] at hj
      simp only [List.getD_eq_getElem?_getD, List.getElem?_set]
      split
      · split
        · simp; omega
        · omega
      · have := h.hi j hj; rwa [List.getD_eq_getElem?_getD] at this

/-- behind a join: what the object holds; of the rest nothing has turned -/
def JoinPost (B b : Nat) (v : Value) (xs' : List Int) (n : Int) (w : World) (e : Ending) (w' : World) : Prop :=
  e = .returned (.tuple #[.int .i64 n, .int .i64 0]) ∧ UfAt w' B b v xs' ∧ Below B w w' ∧ w'.heap.size = w.heap.size ∧ (∀ k, v.ownBlock ≠ some k → w'.heap[k]? = w.heap[k]?)
theorem IntsAt.same {w w' : World} {lv : Value} {l : List Int} (h : IntsAt w lv l) (hs : 0 < l.length → ∀ g, lv.ownBlock = some g → w'.heap[g]? = w.heap[g]?) : IntsAt w' lv l := by
  obtain ⟨a, cap, rfl, hm, hc⟩ := h
  refine ⟨a, cap, rfl, hm, fun h0 => ?_⟩
  obtain ⟨g, o, rfl, hcell⟩ := hc h0
  refine ⟨g, o, rfl, fun j hj => ?_⟩
  rw [← hcell j hj]
  exact World.cell?_of_block (w := w) (hs h0 g rfl)
theorem isB_all {l : List Int} {n : Nat} (h : ∀ j, j < l.length → 1 ≤ l.getD j 0 ∧ l.getD j 0 ≤ n) (i : Int) (hi : i ∈ l) : 1 ≤ i ∧ i ≤ n := by
  obtain ⟨j, hj, rfl⟩ := List.getElem_of_mem hi
  have := h j hj
  rwa [List.getD_eq_getElem?_getD, List.getElem?_eq_getElem hj] at this
theorem drop_step (l : List Int) (k : Nat) (h : k < l.length) : l.drop k = l.getD k 0 :: l.drop (k + 1) := by
  rw [List.drop_eq_getElem_cons h, List.getD_eq_getElem?_getD, List.getElem?_eq_getElem h]; rfl

set_option maxHeartbeats 6400000 in
theorem join_yes {w : World} {B b : Nat} {v : Value} {xs : List Int} (h : UfAt w B b v xs) (hw : Wf xs) (lv : Value) (l : List Int) (hl : IntsAt w lv l)
    (hd1 : 0 < l.length → ∀ g, lv.ownBlock = some g → v.ownBlock ≠ some g) (hin : ∀ j, j < l.length → 1 ≤ l.getD j 0 ∧ l.getD j 0 ≤ xs.length) (hbig : l.length ≤ 1000000000) :
    Calls Try.prog 18 #[.pointer (some ⟨b, 0, none⟩), lv] w (JoinPost B b v (joinAll (l.getD 0 0) l xs).1 (joinAll (l.getD 0 0) l xs).2 w) := by
  have HL := Lib.hid hl
  obtain ⟨a, cap, rfl, hm, hc⟩ := hl
  have HC := Lib.hid hc; clear hc
  have HI := Lib.hid hin; clear hin
  have HD := Lib.hid hd1; clear hd1
  obtain ⟨R, hR⟩ : ∃ R, joinAll (l.getD 0 0) l xs = R := ⟨_, rfl⟩
  rw [hR]
  have HR := Lib.hid hR; clear hR
  go_enter Try.func18, Try.ntmps18
  go_wp2
  go_loop [17] (fun t => ∃ k : Nat, k ≤ l.length ∧ t = .int .i64 k) (fun t => l.length - (intOf t).toNat)
  case atStart => exact ⟨0, by omega, rfl⟩
  case round =>
    obtain ⟨k, hk, rfl⟩ := hrel
    by_cases hlt : k < l.length
    · obtain ⟨g, o, rfl, hcell⟩ := HC.out (by omega)
      have hck := hcell k hlt
      clear hcell
      have hr := HI.out k hlt
      obtain ⟨y, hy⟩ : ∃ y, l.getD k 0 = y := ⟨_, rfl⟩
      rw [hy] at hck hr
      clear hy
      obtain ⟨r1, r2⟩ := hr
      have his := is_yes h hw.len y r1 r2
      go_wp2_with (go_at_call 27; refine his.mono ?_; rintro e w' ⟨rfl, rfl⟩)
      go_round
      case rel => exact ⟨k + 1, by omega, by go_num⟩
      case measure => simp [intOf]; omega
    · have : k = l.length := by omega
      subst this
      go_wp2
      go_loopg [8, 28] l.length (fun d t8 t28 wr => ∃ (k : Nat) (ys : List Int) (n : Int), d = l.length - k ∧ k ≤ l.length ∧ t8 = .int .i64 n ∧ t28 = .int .i64 k ∧ 0 ≤ n ∧ n ≤ k ∧ ys.length = xs.length ∧ Wf ys ∧ UfAt wr B b v ys ∧ Below B w wr ∧ wr.heap.size = w.heap.size ∧ (∀ k, v.ownBlock ≠ some k → wr.heap[k]? = w.heap[k]?) ∧ R = ((joinAll (l.getD 0 0) (l.drop k) ys).1, n + (joinAll (l.getD 0 0) (l.drop k) ys).2))
      case atStart =>
        refine ⟨0, xs, 0, by omega, by omega, rfl, rfl, by omega, by omega, rfl, hw, h, Below.refl _ _, rfl, fun _ _ => rfl, ?_⟩
        rw [← HR.out]; simp
      case round =>
        obtain ⟨k, ys, n, hgk, hk, rfl, rfl, n1, n2, hys, hwf, hu, hbel, hsz, hfar, hres⟩ := hrel
        have HYS := Lib.hid hys; have HSZ := Lib.hid hsz; have HF := Lib.hid hfar; have HRES := Lib.hid hres; have HBEL := Lib.hid hbel
        clear hys hsz hfar hres hbel
        by_cases hlt : k < l.length
        · have hl' := IntsAt.same HL.out (fun h0 g hg => HF.out g (HD.out h0 g hg))
          obtain ⟨a', cap', e1, hm', hc'⟩ := hl'
          simp only [Value.slice.injEq, true_and] at e1
          obtain ⟨rfl, rfl⟩ := e1
          obtain ⟨g, o, rfl, hcell⟩ := hc' (by omega)
          have hc0 := hcell 0 (by omega)
          have hck := hcell k hlt
          rw [Nat.add_zero] at hc0
          clear hcell hc'
          have hr := HI.out k hlt
          have hr0 := HI.out 0 (by omega)
          have hdrop := drop_step l k hlt
          obtain ⟨y, hy⟩ : ∃ y, l.getD k 0 = y := ⟨_, rfl⟩
          obtain ⟨z, hz⟩ : ∃ z, l.getD 0 0 = z := ⟨_, rfl⟩
          rw [hy] at hck hr hdrop
          rw [hz] at hc0 hr0
          have HZ := Lib.hid hz; have HDR := Lib.hid hdrop
          clear hy hz hdrop
          rw [← HYS.out] at hr hr0
          obtain ⟨r1, r2⟩ := hr
          obtain ⟨z1, z2⟩ := hr0
          have hrec : joinAll z (y :: l.drop (k + 1)) ys = ((joinAll z (l.drop (k + 1)) (joinOne ys z y).1).1, (joinOne ys z y).2 + (joinAll z (l.drop (k + 1)) (joinOne ys z y).1).2) := rfl
          have hwf2 := joinOne_wf hwf z1 z2 r1 r2
          have hlen2 := joinOne_len ys z y
          have hhz := head_yes hu hwf z z1 z2
          have hhy := head_yes hu hwf y r1 r2
          have rz := hd_range hwf _ z (Nat.le_refl _) z1 z2
          have ry := hd_range hwf _ y (Nat.le_refl _) r1 r2
          have hone : joinOne ys z y = if hd ys z = hd ys y then (ys, 0) else (ys.set ((max (hd ys z) (hd ys y)) - 1).toNat (min (hd ys z) (hd ys y)), 1) := rfl
          obtain ⟨p, hp⟩ : ∃ p, hd ys z = p := ⟨_, rfl⟩
          obtain ⟨q, hq⟩ : ∃ q, hd ys y = q := ⟨_, rfl⟩
          rw [hp] at hhz rz hone
          rw [hq] at hhy ry hone
          clear hp hq
          obtain ⟨p1, p2, -⟩ := rz
          obtain ⟨q1, q2, -⟩ := ry
          have HREC := Lib.hid hrec; have HWF2 := Lib.hid hwf2; have HLEN2 := Lib.hid hlen2; have HONE := Lib.hid hone
          clear hrec hwf2 hlen2 hone
          have hl0 := hwf.len
          by_cases he : p = q
          · have e2 : (p != q) = false := by simp [he]
            have HE := Lib.hid he; clear he
            go_wp2_with (go_at_call 22; first | ((with_reducible refine hhz.mono ?_); rintro e w' ⟨rfl, rfl⟩) | ((with_reducible refine hhy.mono ?_); rintro e w' ⟨rfl, rfl⟩))
            go_roundg (l.length - (k + 1))
            case measure => omega
            case rel =>
              have e1 := HONE.out
              rw [if_pos HE.out] at e1
              refine ⟨k + 1, ys, n, rfl, by omega, rfl, by go_num, n1, by omega, HYS.out, hwf, hu, HBEL.out, HSZ.out, HF.out, ?_⟩
              rw [HRES.out, HZ.out, HDR.out, HREC.out, e1]; simp
          · have e2 : (p != q) = true := by simp [he]
            rcases hu.shape with ⟨rfl, rfl⟩ | ⟨g2, cap2, rfl, hg2b, hge2, -, -, hcells, hfroz⟩
            · simp at r2; omega
            have hcb := hu.cell
            by_cases hpq : p < q
            ·
              obtain ⟨m, rfl⟩ : ∃ m : Nat, q = (m : Int) + 1 := ⟨(q - 1).toNat, by omega⟩
              have hmy : m < ys.length := by omega
              have hcm := hcells m hmy
              have hfm := hfroz m
              have hset := UfAt.setCell hu m hmy p
              have HSET := Lib.hid hset
              have HU := Lib.hid hu
              clear hcells hfroz hset hu
              go_wp2_with (go_at_call 22; first | ((with_reducible refine hhz.mono ?_); rintro e w' ⟨rfl, rfl⟩) | ((with_reducible refine hhy.mono ?_); rintro e w' ⟨rfl, rfl⟩))
              go_roundg (l.length - (k + 1))
              case measure => omega
              case rel =>
                have e1 := HONE.out
                rw [if_neg (by omega)] at e1
                have e3 : joinOne ys z y = (ys.set m p, 1) := by rw [e1]; congr 2 <;> omega
                refine ⟨k + 1, ys.set m p, n + 1, rfl, by omega, rfl, by go_num, by omega, by omega, ?_, ?_, ?_, ?_, ?_, ?_, ?_⟩
                · rw [List.length_set]; exact HYS.out
                · have := HWF2.out; rwa [e3] at this
                · exact HSET.out
                · exact HBEL.out.setCell hge2 _
                · rw [← HSZ.out]; simp [World.setCell]
                · intro k2 hk2
                  rw [Below.heap_setCell _ _ _ k2 (fun e => hk2 (by rw [e]; rfl))]
                  exact HF.out k2 hk2
                · rw [HRES.out, HZ.out, HDR.out, HREC.out, e3]
                  simp only [Prod.mk.injEq, true_and]; omega
            · have hpq2 : q < p := by omega
              obtain ⟨m, rfl⟩ : ∃ m : Nat, p = (m : Int) + 1 := ⟨(p - 1).toNat, by omega⟩
              have hmy : m < ys.length := by omega
              have hcm := hcells m hmy
              have hfm := hfroz m
              have hset := UfAt.setCell hu m hmy q
              have HSET := Lib.hid hset
              have HU := Lib.hid hu
              clear hcells hfroz hset hu
              go_wp2_with (go_at_call 22; first | ((with_reducible refine hhz.mono ?_); rintro e w' ⟨rfl, rfl⟩) | ((with_reducible refine hhy.mono ?_); rintro e w' ⟨rfl, rfl⟩))
              go_roundg (l.length - (k + 1))
              case measure => omega
              case rel =>
                have e1 := HONE.out
                rw [if_neg (by omega)] at e1
                have e3 : joinOne ys z y = (ys.set m q, 1) := by rw [e1]; congr 2 <;> omega
                refine ⟨k + 1, ys.set m q, n + 1, rfl, by omega, rfl, by go_num, by omega, by omega, ?_, ?_, ?_, ?_, ?_, ?_, ?_⟩
                · rw [List.length_set]; exact HYS.out
                · have := HWF2.out; rwa [e3] at this
                · exact HSET.out
                · exact HBEL.out.setCell hge2 _
                · rw [← HSZ.out]; simp [World.setCell]
                · intro k2 hk2
                  rw [Below.heap_setCell _ _ _ k2 (fun e => hk2 (by rw [e]; rfl))]
                  exact HF.out k2 hk2
                · rw [HRES.out, HZ.out, HDR.out, HREC.out, e3]
                  simp only [Prod.mk.injEq, true_and]; omega
        · have : k = l.length := by omega
          subst this
          go_wp2
          go_ret2
          have e1 := HRES.out
          rw [List.drop_length] at e1
          have e2 : (joinAll (l.getD 0 0) [] ys) = (ys, 0) := rfl
          rw [e2] at e1
          rw [e1]
          refine ⟨by simp, hu, HBEL.out, HSZ.out, HF.out⟩
theorem join_nil (w : World) (lv : Value) : Calls Try.prog 18 #[.pointer none, lv] w (Ret (.tuple #[.int .i64 0, .int .i64 1]) w) := by
  go_enter Try.func18, Try.ntmps18
  go_wp2
  go_ret2
  exact ⟨rfl, rfl⟩
set_option maxHeartbeats 1600000 in
theorem join_no {w : World} {B b : Nat} {v : Value} {xs : List Int} (h : UfAt w B b v xs) (hw : Wf xs) (lv : Value) (l : List Int) (hl : IntsAt w lv l)
    (k0 : Nat) (hk0 : k0 < l.length) (hout : l.getD k0 0 < 1 ∨ xs.length < l.getD k0 0) :
    Calls Try.prog 18 #[.pointer (some ⟨b, 0, none⟩), lv] w (Ret (.tuple #[.int .i64 0, .int .i64 3]) w) := by
  obtain ⟨a, cap, rfl, hm, hc⟩ := hl
  have HC := Lib.hid hc; clear hc
  have HO := Lib.hid hout; clear hout
  go_enter Try.func18, Try.ntmps18
  go_wp2
  go_loop [17] (fun t => ∃ k : Nat, k ≤ k0 ∧ t = .int .i64 k) (fun t => l.length - (intOf t).toNat)
  case atStart => exact ⟨0, by omega, rfl⟩
  case round =>
    obtain ⟨k, hk, rfl⟩ := hrel
    have hlt : k < l.length := by omega
    obtain ⟨g, o, rfl, hcell⟩ := HC.out (by omega)
    have hck := hcell k hlt
    clear hcell
    have ho : k = k0 → l.getD k 0 < 1 ∨ xs.length < l.getD k 0 := fun e => by rw [e]; exact HO.out
    obtain ⟨y, hy⟩ : ∃ y, l.getD k 0 = y := ⟨_, rfl⟩
    rw [hy] at hck ho
    clear hy
    by_cases hr : 1 ≤ y ∧ y ≤ (xs.length : Int)
    · obtain ⟨r1, r2⟩ := hr
      have hk' : k < k0 := by
        rcases Nat.lt_or_ge k k0 with h' | h'
        · exact h'
        · have := ho (by omega); omega
      clear ho
      have his := is_yes h hw.len y r1 r2
      go_wp2_with (go_at_call 27; refine his.mono ?_; rintro e w' ⟨rfl, rfl⟩)
      go_round
      case rel => exact ⟨k + 1, by omega, by go_num⟩
      case measure => simp [intOf]; omega
    · have his := is_no h hw.len y (by omega)
      clear ho hr
      go_wp2_with (go_at_call 27; refine his.mono ?_; rintro e w' ⟨rfl, rfl⟩)
      go_ret2
      exact ⟨rfl, rfl⟩
end Go.Proofs.Ytoiikbomdlnjlaa.Uf
