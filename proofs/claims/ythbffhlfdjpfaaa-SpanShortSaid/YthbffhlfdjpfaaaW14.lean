/- What is wrong with a horizon. -/
import Derived.Test.YthbffhlfdjpfaaaW4
namespace Go.Proofs.Ythbffhlfdjpfaaa
set_option linter.unusedVariables false
set_option linter.unusedSimpArgs false
open Go.RowKit

set_option maxHeartbeats 400000 in
theorem horizon_calls (w : World) (t : Int) : Calls Try.prog 105 #[.int .i64 t] w fun e w' => e = .returned (.int .i64 (if t < 0 then 1 else if 1024 < t then 2 else 0)) ∧ Below w.heap.size w w' := by
  by_cases h1 : t < 0
  · rw [if_pos h1]
    go_enter Try.func105, Try.ntmps105
    go_wp2
    go_ret
    exact ⟨rfl, Below.refl _ _⟩
  · rw [if_neg h1]
    by_cases h2 : 1024 < t
    · rw [if_pos h2]
      go_enter Try.func105, Try.ntmps105
      go_wp2
      go_ret
      exact ⟨rfl, Below.refl _ _⟩
    · rw [if_neg h2]
      go_enter Try.func105, Try.ntmps105
      go_wp2
      go_ret
      exact ⟨rfl, Below.refl _ _⟩
end Go.Proofs.Ythbffhlfdjpfaaa
