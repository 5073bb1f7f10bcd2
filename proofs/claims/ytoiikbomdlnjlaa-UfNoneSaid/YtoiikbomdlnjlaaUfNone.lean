/- Proved: the walk of the law UfNone: of nil classes nothing is told. -/
import Derived.Test.YtoiikbomdlnjlaaUf5
set_option linter.unusedVariables false
set_option linter.unusedSimpArgs false
namespace Go.Proofs.Ytoiikbomdlnjlaa.Uf
open Go.RowKit

set_option maxHeartbeats 3200000 in
theorem ufNone_walk (w : World) (a : Int) (ha : -9223372036854775808 ≤ a ∧ a ≤ 9223372036854775807) :
    Calls Try.prog 8 #[.int .i64 a] w fun e w' => e = .returned (.bool true) ∧ Below w.heap.size w w' := by
  clear ha
  go_enter Try.func8, Try.ntmps8
  go_wp2_with fail
  refine (join_nil _ _).mono ?_
  rintro e w1 ⟨rfl, rfl⟩
  go_wp2_with fail
  refine (alive_any _).mono ?_
  rintro e w2 ⟨rfl, hb⟩
  have HB := Lib.hid hb; clear hb
  go_wp2_with (first | (go_at_call 24; refine (grow_nil _ _).mono ?_; rintro e w' ⟨rfl, rfl⟩) | (go_at_call 22; refine (head_nil _ _).mono ?_; rintro e w' ⟨rfl, rfl⟩) | (go_at_call 25; refine (len_nil _).mono ?_; rintro e w' ⟨rfl, rfl⟩) | (go_at_call 23; refine (class_nil _ _).mono ?_; rintro e w' ⟨rfl, rfl⟩) | (go_at_call 19; refine (classes_nil _).mono ?_; rintro e w' ⟨rfl, rfl⟩) | (go_at_call 21; refine (same_nil _ _).mono ?_; rintro e w' ⟨rfl, rfl⟩))
  go_ret
  have c1 : Below w.heap.size w (w.alloc (.cells #[.int .i64 a] 3)) := (Below.refl _ _).alloc (Nat.le_refl _) _
  have c2 := c1.trans (HB.out.mono c1.size)
  exact ⟨rfl, c2.alloc c2.size _⟩
end Go.Proofs.Ytoiikbomdlnjlaa.Uf
