/- Proved: the statement PartTells: of every asset which parts fit, and the greatest one; who may. Condition: none beyond the row's own. -/
import Derived.Test.YtoiikbomdlnjlaaRows
import Derived.Test.YtoiikbomdlnjlaaTells
import Derived.WalkKit
import Derived.ProofKit
import Derived.OpenShut
import Derived.ShutString
import Derived.ChangeOld
import Derived.Below
import Derived.SizedLaws
import Derived.ChangeArms
namespace Go.Proofs.Ytoiikbomdlnjlaa.partTells
open Go.ChangeShapes Go.WideShapes Go.ChangeAt Go.RowKit
open Go.ChangeMaps (open_string shut_string)
set_option linter.unusedVariables false
theorem own : ownKnob Try.prog.godebug = none := by kernel_rfl
theorem laidOut : laidOutB Try.prog = true := by kernel_rfl
theorem cellsA : Try.prog.cellsOf 23 = 8 := by kernel_rfl
theorem cellsI : Try.prog.cellsOf 27 = 21 := by kernel_rfl
theorem cellsT : Try.prog.cellsOf 25 = 12 := by kernel_rfl
theorem cells9 : Try.prog.cellsOf 9 = 1 := by kernel_rfl
theorem cells4 : Try.prog.cellsOf 4 = 1 := by kernel_rfl
theorem cells3 : Try.prog.cellsOf 3 = 1 := by kernel_rfl
theorem cells_agg (l : List Value) : (Value.agg ⟨l⟩).cells.toList = l := rfl
theorem list8 (l : List Value) (h : l.length = 8) : ∃ c0 c1 c2 c3 c4 c5 c6 c7, l = [c0, c1, c2, c3, c4, c5, c6, c7] := by
  match l, h with
  | [c0, c1, c2, c3, c4, c5, c6, c7], _ => exact ⟨c0, c1, c2, c3, c4, c5, c6, c7, rfl⟩
theorem list21 (l : List Value) (h : l.length = 21) : ∃ c0 c1 c2 c3 c4 c5 c6 c7 c8 c9 c10 c11 c12 c13 c14 c15 c16 c17 c18 c19 c20, l = [c0, c1, c2, c3, c4, c5, c6, c7, c8, c9, c10, c11, c12, c13, c14, c15, c16, c17, c18, c19, c20] := by
  match l, h with
  | [c0, c1, c2, c3, c4, c5, c6, c7, c8, c9, c10, c11, c12, c13, c14, c15, c16, c17, c18, c19, c20], _ => exact ⟨c0, c1, c2, c3, c4, c5, c6, c7, c8, c9, c10, c11, c12, c13, c14, c15, c16, c17, c18, c19, c20, rfl⟩
theorem leaf_int {H : Type} {enc : TypeId × Value → H} {w : World} {xs : List (DataW H × List MemPlace)} {i off : Nat} {t : TypeId} {c : Value} {l : List Value} (n : Nat) (hi : i < xs.length) (ht : Try.prog.underlying t = some (.int .i64))
    (h : DataW.trod enc Try.prog w 0 (fun _ => true) true n t ((l.drop off).take (Try.prog.cellsOf t)) = xs[i]?) (hc : (l.drop off).take (Try.prog.cellsOf t) = [c]) : ∃ a, c = .int .i64 a ∧ (Lit.int .i64 a).wf = true := by
  rw [List.getElem?_eq_getElem hi, hc] at h
  obtain ⟨a, h1, _, h2⟩ := DataW.trod_int ht h
  simp at h1
  exact ⟨a, h1, h2⟩
theorem leaf_string {H : Type} {enc : TypeId × Value → H} {w : World} {xs : List (DataW H × List MemPlace)} {i off : Nat} {t : TypeId} {c : Value} {l : List Value} (n : Nat) (hi : i < xs.length) (ht : Try.prog.underlying t = some .string)
    (h : DataW.trod enc Try.prog w 0 (fun _ => true) true n t ((l.drop off).take (Try.prog.cellsOf t)) = xs[i]?) (hc : (l.drop off).take (Try.prog.cellsOf t) = [c]) : ∃ a, c = .string a := by
  rw [List.getElem?_eq_getElem hi, hc] at h
  obtain ⟨a, h1, _⟩ := DataW.trod_string ht h
  simp at h1
  exact ⟨a, h1⟩
theorem leaf_bool {H : Type} {enc : TypeId × Value → H} {w : World} {xs : List (DataW H × List MemPlace)} {i off : Nat} {t : TypeId} {c : Value} {l : List Value} (n : Nat) (hi : i < xs.length) (ht : Try.prog.underlying t = some .bool)
    (h : DataW.trod enc Try.prog w 0 (fun _ => true) true n t ((l.drop off).take (Try.prog.cellsOf t)) = xs[i]?) (hc : (l.drop off).take (Try.prog.cellsOf t) = [c]) : ∃ a, c = .bool a := by
  rw [List.getElem?_eq_getElem hi, hc] at h
  obtain ⟨a, h1, _⟩ := DataW.trod_bool ht h
  simp at h1
  exact ⟨a, h1⟩
set_option maxRecDepth 100000 in
set_option maxHeartbeats 3200000 in
theorem lifted (os : Os) (started : os.Started) (H : Type) (enc : TypeId × Value → H) :
    ReturnsInHanded {} Try.checked os 3 .any (Rows.partTellsSpec.pre6 enc Try.prog Try.f3 Rows.partTellsRow.domain false) (Rows.partTellsSpec.post enc Try.prog Try.f3 false true false false) := by
  refine returnsInHanded_of_change_sized (C := Try.checked) own started (by kernel_rfl) Try.func3
    (ChangeSpec.witness6 (enc := enc) (C := Try.checked) false ⟨#[], #[.agg #[.string ByteArray.empty, .bool false, .bool false, .int .i64 0, .int .i64 0, .int .i64 0, .int .i64 0, .int .i64 0], .int .i64 0, .int .i64 0, .int .i64 0, .agg #[.int .i64 0, .string ByteArray.empty, .string ByteArray.empty, .string ByteArray.empty, .string ByteArray.empty, .bool false, .string ByteArray.empty, .string ByteArray.empty, .string ByteArray.empty, .int .i64 0, .int .i64 0, .int .i64 0, .int .i64 0, .int .i64 0, .bool false, .bool false, .bool false, .int .i64 0, .int .i64 0, .int .i64 0, .int .i64 0], .agg #[.int .i64 0, .string ByteArray.empty, .string ByteArray.empty, .string ByteArray.empty, .string ByteArray.empty, .bool false, .string ByteArray.empty, .string ByteArray.empty, .string ByteArray.empty, .int .i64 0, .int .i64 0, .int .i64 0, .int .i64 0, .int .i64 0, .bool false, .bool false, .bool false, .int .i64 0, .int .i64 0, .int .i64 0, .int .i64 0]], []⟩ 8 (by kernel_rfl) (by kernel_rfl) (by kernel_rfl) (by kernel_rfl)) ?_
  intro W base args ds gs before hval0 hW hcnd hsz0 _
  have hval : ∀ (j : Nat) t v, Try.f3.params[j]? = some t → args[j]? = some v → Value.okWide Try.prog W .any base t v := hval0
  have hW' := hW
  obtain ⟨p, q, hA0, hV, rfl, hfz, hnd⟩ := hW
  have hA : DataW.TrodAll enc Try.prog W 0 (fun _ => true) true Try.f3.params.toList args.toList ds p := hA0
  rw [Try.params3] at hA hval
  obtain ⟨v0, vs0, d0, ds0, p0, q0, hargs, rfl, rfl, h0, r0⟩ := trodAll_cons hA
  obtain ⟨v1, vs1, d1, ds1, p1, q1, rfl, rfl, rfl, h1, r1⟩ := trodAll_cons r0
  obtain ⟨v2, vs2, d2, ds2, p2, q2, rfl, rfl, rfl, h2, r2⟩ := trodAll_cons r1
  obtain ⟨v3, vs3, d3, ds3, p3, q3, rfl, rfl, rfl, h3, r3⟩ := trodAll_cons r2
  obtain ⟨v4, vs4, d4, ds4, p4, q4, rfl, rfl, rfl, h4, r4⟩ := trodAll_cons r3
  obtain ⟨v5, vs5, d5, ds5, p5, q5, rfl, rfl, rfl, h5, r5⟩ := trodAll_cons r4
  obtain ⟨rfl, rfl, rfl⟩ := trodAll_nil r5
  obtain rfl : args = #[v0, v1, v2, v3, v4, v5] := by cases args; simp_all
  obtain ⟨rfl, rfl⟩ := trodVars_none hV
  obtain ⟨cs0, rfl, hsz0⟩ := okWide_struct Try.underlying23 (hval 0 23 v0 rfl rfl)
  obtain ⟨l0⟩ := cs0
  have k0 := h0
  have lt0 : ∀ x ∈ p0, x.block < W.heap.size := by obtain ⟨m, hm⟩ := k0; exact DataW.trod_lt m _ _ _ hm
  obtain ⟨ac0, ac1, ac2, ac3, ac4, ac5, ac6, ac7, rfl⟩ := list8 l0 (by rw [cellsA] at hsz0; simpa using hsz0)
  obtain ⟨fuel0, hf0⟩ := h0
  obtain ⟨xs0, n0, _, hx0, hlen0, hxl0, hg0⟩ := DataW.trod_struct Try.underlying23 hf0
  have hxl0' : xs0.length = 8 := hxl0
  obtain ⟨a_0, rfl⟩ := leaf_string (n0) (show 0 < xs0.length by omega) (t := 9) Try.underlying9 (hg0 0 _ rfl) (by rw [cells9]; rfl)
  obtain ⟨a_1, rfl⟩ := leaf_bool (n0) (show 1 < xs0.length by omega) (t := 4) Try.underlying4 (hg0 1 _ rfl) (by rw [cells4]; rfl)
  obtain ⟨a_2, rfl⟩ := leaf_bool (n0) (show 2 < xs0.length by omega) (t := 4) Try.underlying4 (hg0 2 _ rfl) (by rw [cells4]; rfl)
  obtain ⟨a_3, rfl, wa_3⟩ := leaf_int (n0) (show 3 < xs0.length by omega) (t := 3) Try.underlying3 (hg0 3 _ rfl) (by rw [cells3]; rfl)
  obtain ⟨a_4, rfl, wa_4⟩ := leaf_int (n0) (show 4 < xs0.length by omega) (t := 3) Try.underlying3 (hg0 4 _ rfl) (by rw [cells3]; rfl)
  obtain ⟨a_5, rfl, wa_5⟩ := leaf_int (n0) (show 5 < xs0.length by omega) (t := 3) Try.underlying3 (hg0 5 _ rfl) (by rw [cells3]; rfl)
  obtain ⟨a_6, rfl, wa_6⟩ := leaf_int (n0) (show 6 < xs0.length by omega) (t := 3) Try.underlying3 (hg0 6 _ rfl) (by rw [cells3]; rfl)
  obtain ⟨a_7, rfl, wa_7⟩ := leaf_int (n0) (show 7 < xs0.length by omega) (t := 3) Try.underlying3 (hg0 7 _ rfl) (by rw [cells3]; rfl)
  obtain ⟨i1, rfl, rfl, rfl, wi1⟩ := open_int Try.underlying3 (hval 1 3 v1 rfl rfl) h1
  obtain ⟨i2, rfl, rfl, rfl, wi2⟩ := open_int Try.underlying3 (hval 2 3 v2 rfl rfl) h2
  obtain ⟨i3, rfl, rfl, rfl, wi3⟩ := open_int Try.underlying3 (hval 3 3 v3 rfl rfl) h3
  obtain ⟨cs4, rfl, hsz4⟩ := okWide_struct Try.underlying27 (hval 4 27 v4 rfl rfl)
  obtain ⟨l4⟩ := cs4
  have k4 := h4
  have lt4 : ∀ x ∈ p4, x.block < W.heap.size := by obtain ⟨m, hm⟩ := k4; exact DataW.trod_lt m _ _ _ hm
  obtain ⟨xc0, xc1, xc2, xc3, xc4, xc5, xc6, xc7, xc8, xc9, xc10, xc11, xc12, xc13, xc14, xc15, xc16, xc17, xc18, xc19, xc20, rfl⟩ := list21 l4 (by rw [cellsI] at hsz4; simpa using hsz4)
  obtain ⟨fuel4, hf4⟩ := h4
  obtain ⟨xs4, n4, _, hx4, hlen4, hxl4, hg4⟩ := DataW.trod_struct Try.underlying27 hf4
  have hxl4' : xs4.length = 10 := hxl4
  obtain ⟨x_0, rfl, wx_0⟩ := leaf_int (n4) (show 0 < xs4.length by omega) (t := 3) Try.underlying3 (hg4 0 _ rfl) (by rw [cells3]; rfl)
  obtain ⟨y4, hy4⟩ : ∃ y, xs4[1]? = some y := ⟨_, List.getElem?_eq_getElem (by omega)⟩
  have ht4 := (hg4 1 _ rfl).trans hy4
  obtain ⟨xs4T, n4T, _, hx4T, hlen4T, hxl4T, hg4T⟩ := DataW.trod_struct Try.underlying25 ht4
  have hxl4T' : xs4T.length = 12 := hxl4T
  obtain ⟨x_1, rfl⟩ := leaf_string (n4T) (show 0 < xs4T.length by omega) (t := 9) Try.underlying9 (hg4T 0 _ rfl) (by rw [cells9]; rfl)
  obtain ⟨x_2, rfl⟩ := leaf_string (n4T) (show 1 < xs4T.length by omega) (t := 9) Try.underlying9 (hg4T 1 _ rfl) (by rw [cells9]; rfl)
  obtain ⟨x_3, rfl⟩ := leaf_string (n4T) (show 2 < xs4T.length by omega) (t := 9) Try.underlying9 (hg4T 2 _ rfl) (by rw [cells9]; rfl)
  obtain ⟨x_4, rfl⟩ := leaf_string (n4T) (show 3 < xs4T.length by omega) (t := 9) Try.underlying9 (hg4T 3 _ rfl) (by rw [cells9]; rfl)
  obtain ⟨x_5, rfl⟩ := leaf_bool (n4T) (show 4 < xs4T.length by omega) (t := 4) Try.underlying4 (hg4T 4 _ rfl) (by rw [cells4]; rfl)
  obtain ⟨x_6, rfl⟩ := leaf_string (n4T) (show 5 < xs4T.length by omega) (t := 9) Try.underlying9 (hg4T 5 _ rfl) (by rw [cells9]; rfl)
  obtain ⟨x_7, rfl⟩ := leaf_string (n4T) (show 6 < xs4T.length by omega) (t := 9) Try.underlying9 (hg4T 6 _ rfl) (by rw [cells9]; rfl)
  obtain ⟨x_8, rfl⟩ := leaf_string (n4T) (show 7 < xs4T.length by omega) (t := 9) Try.underlying9 (hg4T 7 _ rfl) (by rw [cells9]; rfl)
  obtain ⟨x_9, rfl, wx_9⟩ := leaf_int (n4T) (show 8 < xs4T.length by omega) (t := 3) Try.underlying3 (hg4T 8 _ rfl) (by rw [cells3]; rfl)
  obtain ⟨x_10, rfl, wx_10⟩ := leaf_int (n4T) (show 9 < xs4T.length by omega) (t := 3) Try.underlying3 (hg4T 9 _ rfl) (by rw [cells3]; rfl)
  obtain ⟨x_11, rfl, wx_11⟩ := leaf_int (n4T) (show 10 < xs4T.length by omega) (t := 3) Try.underlying3 (hg4T 10 _ rfl) (by rw [cells3]; rfl)
  obtain ⟨x_12, rfl, wx_12⟩ := leaf_int (n4T) (show 11 < xs4T.length by omega) (t := 3) Try.underlying3 (hg4T 11 _ rfl) (by rw [cells3]; rfl)
  obtain ⟨x_13, rfl, wx_13⟩ := leaf_int (n4) (show 2 < xs4.length by omega) (t := 3) Try.underlying3 (hg4 2 _ rfl) (by rw [cells3]; rfl)
  obtain ⟨x_14, rfl⟩ := leaf_bool (n4) (show 3 < xs4.length by omega) (t := 4) Try.underlying4 (hg4 3 _ rfl) (by rw [cells4]; rfl)
  obtain ⟨x_15, rfl⟩ := leaf_bool (n4) (show 4 < xs4.length by omega) (t := 4) Try.underlying4 (hg4 4 _ rfl) (by rw [cells4]; rfl)
  obtain ⟨x_16, rfl⟩ := leaf_bool (n4) (show 5 < xs4.length by omega) (t := 4) Try.underlying4 (hg4 5 _ rfl) (by rw [cells4]; rfl)
  obtain ⟨x_17, rfl, wx_17⟩ := leaf_int (n4) (show 6 < xs4.length by omega) (t := 3) Try.underlying3 (hg4 6 _ rfl) (by rw [cells3]; rfl)
  obtain ⟨x_18, rfl, wx_18⟩ := leaf_int (n4) (show 7 < xs4.length by omega) (t := 3) Try.underlying3 (hg4 7 _ rfl) (by rw [cells3]; rfl)
  obtain ⟨x_19, rfl, wx_19⟩ := leaf_int (n4) (show 8 < xs4.length by omega) (t := 3) Try.underlying3 (hg4 8 _ rfl) (by rw [cells3]; rfl)
  obtain ⟨x_20, rfl, wx_20⟩ := leaf_int (n4) (show 9 < xs4.length by omega) (t := 3) Try.underlying3 (hg4 9 _ rfl) (by rw [cells3]; rfl)
  obtain ⟨cs5, rfl, hsz5⟩ := okWide_struct Try.underlying27 (hval 5 27 v5 rfl rfl)
  obtain ⟨l5⟩ := cs5
  have k5 := h5
  have lt5 : ∀ x ∈ p5, x.block < W.heap.size := by obtain ⟨m, hm⟩ := k5; exact DataW.trod_lt m _ _ _ hm
  obtain ⟨yc0, yc1, yc2, yc3, yc4, yc5, yc6, yc7, yc8, yc9, yc10, yc11, yc12, yc13, yc14, yc15, yc16, yc17, yc18, yc19, yc20, rfl⟩ := list21 l5 (by rw [cellsI] at hsz5; simpa using hsz5)
  obtain ⟨fuel5, hf5⟩ := h5
  obtain ⟨xs5, n5, _, hx5, hlen5, hxl5, hg5⟩ := DataW.trod_struct Try.underlying27 hf5
  have hxl5' : xs5.length = 10 := hxl5
  obtain ⟨y_0, rfl, wy_0⟩ := leaf_int (n5) (show 0 < xs5.length by omega) (t := 3) Try.underlying3 (hg5 0 _ rfl) (by rw [cells3]; rfl)
  obtain ⟨y5, hy5⟩ : ∃ y, xs5[1]? = some y := ⟨_, List.getElem?_eq_getElem (by omega)⟩
  have ht5 := (hg5 1 _ rfl).trans hy5
  obtain ⟨xs5T, n5T, _, hx5T, hlen5T, hxl5T, hg5T⟩ := DataW.trod_struct Try.underlying25 ht5
  have hxl5T' : xs5T.length = 12 := hxl5T
  obtain ⟨y_1, rfl⟩ := leaf_string (n5T) (show 0 < xs5T.length by omega) (t := 9) Try.underlying9 (hg5T 0 _ rfl) (by rw [cells9]; rfl)
  obtain ⟨y_2, rfl⟩ := leaf_string (n5T) (show 1 < xs5T.length by omega) (t := 9) Try.underlying9 (hg5T 1 _ rfl) (by rw [cells9]; rfl)
  obtain ⟨y_3, rfl⟩ := leaf_string (n5T) (show 2 < xs5T.length by omega) (t := 9) Try.underlying9 (hg5T 2 _ rfl) (by rw [cells9]; rfl)
  obtain ⟨y_4, rfl⟩ := leaf_string (n5T) (show 3 < xs5T.length by omega) (t := 9) Try.underlying9 (hg5T 3 _ rfl) (by rw [cells9]; rfl)
  obtain ⟨y_5, rfl⟩ := leaf_bool (n5T) (show 4 < xs5T.length by omega) (t := 4) Try.underlying4 (hg5T 4 _ rfl) (by rw [cells4]; rfl)
  obtain ⟨y_6, rfl⟩ := leaf_string (n5T) (show 5 < xs5T.length by omega) (t := 9) Try.underlying9 (hg5T 5 _ rfl) (by rw [cells9]; rfl)
  obtain ⟨y_7, rfl⟩ := leaf_string (n5T) (show 6 < xs5T.length by omega) (t := 9) Try.underlying9 (hg5T 6 _ rfl) (by rw [cells9]; rfl)
  obtain ⟨y_8, rfl⟩ := leaf_string (n5T) (show 7 < xs5T.length by omega) (t := 9) Try.underlying9 (hg5T 7 _ rfl) (by rw [cells9]; rfl)
  obtain ⟨y_9, rfl, wy_9⟩ := leaf_int (n5T) (show 8 < xs5T.length by omega) (t := 3) Try.underlying3 (hg5T 8 _ rfl) (by rw [cells3]; rfl)
  obtain ⟨y_10, rfl, wy_10⟩ := leaf_int (n5T) (show 9 < xs5T.length by omega) (t := 3) Try.underlying3 (hg5T 9 _ rfl) (by rw [cells3]; rfl)
  obtain ⟨y_11, rfl, wy_11⟩ := leaf_int (n5T) (show 10 < xs5T.length by omega) (t := 3) Try.underlying3 (hg5T 10 _ rfl) (by rw [cells3]; rfl)
  obtain ⟨y_12, rfl, wy_12⟩ := leaf_int (n5T) (show 11 < xs5T.length by omega) (t := 3) Try.underlying3 (hg5T 11 _ rfl) (by rw [cells3]; rfl)
  obtain ⟨y_13, rfl, wy_13⟩ := leaf_int (n5) (show 2 < xs5.length by omega) (t := 3) Try.underlying3 (hg5 2 _ rfl) (by rw [cells3]; rfl)
  obtain ⟨y_14, rfl⟩ := leaf_bool (n5) (show 3 < xs5.length by omega) (t := 4) Try.underlying4 (hg5 3 _ rfl) (by rw [cells4]; rfl)
  obtain ⟨y_15, rfl⟩ := leaf_bool (n5) (show 4 < xs5.length by omega) (t := 4) Try.underlying4 (hg5 4 _ rfl) (by rw [cells4]; rfl)
  obtain ⟨y_16, rfl⟩ := leaf_bool (n5) (show 5 < xs5.length by omega) (t := 4) Try.underlying4 (hg5 5 _ rfl) (by rw [cells4]; rfl)
  obtain ⟨y_17, rfl, wy_17⟩ := leaf_int (n5) (show 6 < xs5.length by omega) (t := 3) Try.underlying3 (hg5 6 _ rfl) (by rw [cells3]; rfl)
  obtain ⟨y_18, rfl, wy_18⟩ := leaf_int (n5) (show 7 < xs5.length by omega) (t := 3) Try.underlying3 (hg5 7 _ rfl) (by rw [cells3]; rfl)
  obtain ⟨y_19, rfl, wy_19⟩ := leaf_int (n5) (show 8 < xs5.length by omega) (t := 3) Try.underlying3 (hg5 8 _ rfl) (by rw [cells3]; rfl)
  obtain ⟨y_20, rfl, wy_20⟩ := leaf_int (n5) (show 9 < xs5.length by omega) (t := 3) Try.underlying3 (hg5 9 _ rfl) (by rw [cells3]; rfl)
  clear hA0 hval0 hsz0
  refine (Tells.partTells_fields W a_0 a_1 a_2 a_3 a_4 a_5 a_6 a_7 i1 i2 i3 x_0 x_1 x_2 x_3 x_4 x_5 x_6 x_7 x_8 x_9 x_10 x_11 x_12 x_13 x_14 x_15 x_16 x_17 x_18 x_19 x_20 y_0 y_1 y_2 y_3 y_4 y_5 y_6 y_7 y_8 y_9 y_10 y_11 y_12 y_13 y_14 y_15 y_16 y_17 y_18 y_19 y_20 (bounds_i64 wi1).2 (bounds_i64 wa_4).2).mono fun e W' ⟨he, bel⟩ => ?_
  subst he
  exact ⟨_, rfl, _, _, _, [], _, [], hW', trodAll_mk1 (shut_bool Try.underlying4 _), (trodAll_cons_mk (Below.trod laidOut (by kernel_rfl) (of_decide_eq_true (by kernel_rfl)) k0 bel lt0) (trodAll_cons_mk (shut_int Try.underlying3 wi1) (trodAll_cons_mk (shut_int Try.underlying3 wi2) (trodAll_cons_mk (shut_int Try.underlying3 wi3) (trodAll_cons_mk (Below.trod laidOut (by kernel_rfl) (of_decide_eq_true (by kernel_rfl)) k4 bel lt4) (trodAll_cons_mk (Below.trod laidOut (by kernel_rfl) (of_decide_eq_true (by kernel_rfl)) k5 bel lt5) trodAll_mk0)))))), rfl, bel.frame _, fun h => by cases h⟩
theorem over : Rows.partTellsRow.holds Try.pinned (OpenSpec.ofChange Rows.partTellsSpec) :=
  OpenClaim.holds_of_wide 3 Try.f3 rfl rfl rfl rfl rfl rfl rfl ⟨rfl, rfl, rfl, rfl, rfl⟩ rfl rfl rfl rfl rfl (by kernel_rfl) Try.func3 (by kernel_rfl)
    (of_decide_eq_true (by kernel_rfl)) (by unfold Func.isWrapper; first | (rw [if_pos (by decide +kernel)]; kernel_rfl) | (rw [if_neg (by decide +kernel)]; exact ⟨rfl, rfl⟩))
    (fun os started H enc _ => lifted os started H enc)
theorem proved : Rows.PartTellsSaid := over
#print axioms proved
end Go.Proofs.Ytoiikbomdlnjlaa.partTells
namespace Go.Proofs.Ytoiikbomdlnjlaa
/-- The row, under a short name, for the claim. -/
theorem partTells_holds : Rows.PartTellsSaid := partTells.proved
end Go.Proofs.Ytoiikbomdlnjlaa
