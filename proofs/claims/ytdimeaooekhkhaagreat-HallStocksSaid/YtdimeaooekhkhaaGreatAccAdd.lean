/- Proved: money's sum of numbers, where it lies within its ends: the sum itself, and nothing in memory turns. Condition: fewer than a million numbers, each within 64 bits. -/
import Derived.Test.YtdimeaooekhkhaaGreatProg
import Derived.Laws.Externs
import Derived.Below
import Derived.Tactics
import Derived.WalkKit
import Derived.KernelRfl
import Derived.RowKit3
import Derived.Deep.LoopGhost
import Derived.Lib.Hide
import Derived.IntWalk
set_option linter.unusedVariables false
set_option linter.unusedSimpArgs false
namespace Go.Proofs.YtdimeaooekhkhaaGreat.AX
open Go.RowKit

theorem sum_take (l : List Int) (k : Nat) (x : Int) (h : l[k]? = some x) : (l.take (k + 1)).sum = (l.take k).sum + x := by
  induction l generalizing k with
  | nil => simp at h
  | cons a l ih =>
    cases k with
    | zero => simp at h; subst h; simp
    | succ k => simp at h; simp [ih k h]; omega
theorem call_add64 (a b c : Int) (ha : 0 ≤ a) (hb : 0 ≤ b) (h0 : 0 ≤ c) (h1 : c ≤ 1) (w : World) : (callFunc 192 #[.int .u64 a, .int .u64 b, .int .u64 c]).run Tryz.prog w = .ok (.value (.tuple #[.int .u64 ((a + b + c) % 18446744073709551616), .int .u64 ((a + b + c) / 18446744073709551616)])) w := by
  rw [run_callFunc_extern Tryz.func192 (by kernel_rfl) (by kernel_rfl) (by kernel_rfl) (e := add64Entry) (by kernel_rfl), run_add64 a b c ha hb h0 h1]; rfl
theorem call_add640 (a b : Int) (ha : 0 ≤ a) (hb : 0 ≤ b) (w : World) : (callFunc 192 #[.int .u64 a, .int .u64 b, .int .u64 0]).run Tryz.prog w = .ok (.value (.tuple #[.int .u64 ((a + b) % 18446744073709551616), .int .u64 ((a + b) / 18446744073709551616)])) w := by
  rw [call_add64 a b 0 ha hb (by omega) (by omega), Int.add_zero]
set_option maxRecDepth 100000 in
set_option maxHeartbeats 1600000 in
theorem accAdd_any (w : World) (p : Value) (A : Option Addr) (c : Nat) (xs : List Int) (hlen : xs.length < 1000000) (hcell : ∀ k x, xs[k]? = some x → ∃ g o, A = some ⟨g, o, none⟩ ∧ w.cell? ⟨g, o + k, none⟩ = some (.int .i64 x))
    (hfit : ∀ x ∈ xs, -9223372036854775808 ≤ x ∧ x < 9223372036854775808) (h1 : -1152921504606846976 ≤ xs.sum) (h2 : xs.sum ≤ 1152921504606846976) :
    Calls Tryz.prog 89 #[p, .slice A xs.length c] w fun e w' => e = .returned (.int .i64 xs.sum) ∧ w' = w := by
  have HC := Lib.hid hcell; clear hcell
  have HF := Lib.hid hfit; clear hfit
  have HS1 := Lib.hid h1; have HS2 := Lib.hid h2; clear h1 h2
  go_enter Tryz.func89, Tryz.ntmps89
  go_wp2
  go_loop [5, 6, 15] (fun t5 t6 t15 => ∃ (k : Nat) (hi lo : Int), k ≤ xs.length ∧ t5 = .int .u64 hi ∧ t6 = .int .u64 lo ∧ t15 = .int .i64 k ∧ 0 ≤ hi ∧ hi < 18446744073709551616 ∧ 0 ≤ lo ∧ lo < 18446744073709551616 ∧ hi * 18446744073709551616 + lo = (xs.take k).sum % 340282366920938463463374607431768211456) (fun _ _ t => xs.length - (intOf t).toNat)
  case atStart => exact ⟨0, 0, 0, by omega, rfl, rfl, rfl, by omega, by omega, by omega, by omega, by simp⟩
  case round =>
    obtain ⟨k, hi, lo, hk, rfl, rfl, rfl, a1, a2, a3, a4, hsum⟩ := hrel
    have HSUM := Lib.hid hsum; clear hsum
    by_cases hlt : k < xs.length
    · obtain ⟨x, hx⟩ : ∃ x, xs[k]? = some x := ⟨_, List.getElem?_eq_getElem hlt⟩
      obtain ⟨g, o, rfl, hck⟩ := HC.out k x hx
      have hstep := sum_take xs k x hx
      have HST := Lib.hid hstep; clear hstep
      obtain ⟨f1, f2⟩ := HF.out x (List.mem_of_getElem? hx)
      have HX := Lib.hid hx; clear hx
      by_cases hneg : x < 0
      · have hsh : x / 9223372036854775808 = -1 := by omega
        have hw1 : IntKind.wrap .u64 x = x + 18446744073709551616 := by rw [IntKind.wrap_u64]; omega
        have hw2 : IntKind.wrap .u64 (-1) = 18446744073709551615 := by rw [IntKind.wrap_u64]; omega
        have hc1 := call_add640 lo (x + 18446744073709551616) a3 (by omega) w
        have hc2 := call_add64 hi 18446744073709551615 ((lo + (x + 18446744073709551616)) / 18446744073709551616) a1 (by omega) (by omega) (by omega) w
        go_wp2
        go_round
        case rel => exact ⟨k + 1, _, _, by omega, rfl, rfl, by go_num, by omega, by omega, by omega, by omega, by have := HSUM.out; have := HST.out; omega⟩
        case measure => simp [intOf]; omega
      · have hsh : x / 9223372036854775808 = 0 := by omega
        have hw1 : IntKind.wrap .u64 x = x := by rw [IntKind.wrap_u64]; omega
        have hc1 := call_add640 lo x a3 (by omega) w
        have hc2 := call_add64 hi 0 ((lo + x) / 18446744073709551616) a1 (by omega) (by omega) (by omega) w
        go_wp2
        go_round
        case rel => exact ⟨k + 1, _, _, by omega, rfl, rfl, by go_num, by omega, by omega, by omega, by omega, by have := HSUM.out; have := HST.out; omega⟩
        case measure => simp [intOf]; omega
    · have hk' : k = xs.length := by omega
      subst hk'
      have hs := HSUM.out
      rw [List.take_length] at hs
      have b1 := HS1.out
      have b2 := HS2.out
      obtain ⟨s, hs'⟩ : ∃ s, xs.sum = s := ⟨_, rfl⟩
      rw [hs'] at hs b1 b2
      have HS' := Lib.hid hs'; clear hs'
      clear HSUM HS1 HS2
      by_cases hneg : s < 0
      · obtain ⟨rfl, rfl⟩ : hi = 18446744073709551615 ∧ lo = s + 18446744073709551616 := by omega
        have hw : IntKind.wrap .i64 (s + 18446744073709551616) = s := by rw [IntKind.wrap_i64]; omega
        have hsh : s / 9223372036854775808 = -1 := by omega
        have hw2 : IntKind.wrap .u64 (-1) = 18446744073709551615 := by rw [IntKind.wrap_u64]; omega
        clear hs
        go_wp2
        go_ret
        exact ⟨by rw [HS'.out]; rfl, rfl⟩
      · obtain ⟨rfl, rfl⟩ : hi = 0 ∧ lo = s := by omega
        have hw : IntKind.wrap .i64 lo = lo := by rw [IntKind.wrap_i64]; omega
        have hsh : lo / 9223372036854775808 = 0 := by omega
        clear hs
        go_wp2
        go_ret
        exact ⟨by rw [HS'.out]; rfl, rfl⟩
end Go.Proofs.YtdimeaooekhkhaaGreat.AX
