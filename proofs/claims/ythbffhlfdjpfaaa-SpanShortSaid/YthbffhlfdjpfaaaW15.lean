/- What is wrong with a network. -/
import Derived.Test.YthbffhlfdjpfaaaW4
namespace Go.Proofs.Ythbffhlfdjpfaaa
set_option linter.unusedVariables false
set_option linter.unusedSimpArgs false
open Go.RowKit

def nodesE (n : Int) : Int := if n < 1 then 51 else if 50 < n then 2 else 0
def arcE (n : Int) (a : Arc) : Int := if min a.fr (min a.to (min a.cap a.tm)) < 0 ∨ n ≤ max a.fr a.to then 51 else if 1048576 < a.cap ∨ 1048576 < a.tm then 2 else 0

@[go_sem] theorem run_min_int4 {P : Program} {w : World} (ts : Array TypeId) (t : TypeId) (k k' k2 k3 : IntKind) (x y z v : Int) : (Builtin.min_ ts t #[.int k x, .int k' y, .int k2 z, .int k3 v]).run P w = .ok (.int k (min x (min y (min z v)))) w := by
  rw [show min x (min y (min z v)) = min (min (min x y) z) v by omega]
  have e : ∀ a b : Int, (if b < a then b else a) = min a b := fun a b => by split <;> omega
  simp [Builtin.min_, Builtin.min2, e]

set_option maxHeartbeats 400000 in
theorem nodes_calls (w : World) (t : Int) : Calls Try.prog 118 #[.int .i64 t] w fun e w' => e = .returned (.int .i64 (nodesE t)) ∧ Below w.heap.size w w' := by
  unfold nodesE
  by_cases h1 : t < 1
  · rw [if_pos h1]
    go_enter Try.func118, Try.ntmps118
    go_wp2
    go_ret
    exact ⟨rfl, Below.refl _ _⟩
  · rw [if_neg h1]
    by_cases h2 : 50 < t
    · rw [if_pos h2]
      go_enter Try.func118, Try.ntmps118
      go_wp2
      go_ret
      exact ⟨rfl, Below.refl _ _⟩
    · rw [if_neg h2]
      go_enter Try.func118, Try.ntmps118
      go_wp2
      go_ret
      exact ⟨rfl, Below.refl _ _⟩

set_option maxHeartbeats 400000 in
theorem arc_calls (w : World) (n : Int) (a : Arc) : Calls Try.prog 119 #[.int .i64 n, .agg #[.int .i64 a.fr, .int .i64 a.to, .int .i64 a.cap, .int .i64 a.tm]] w fun e w' => e = .returned (.int .i64 (arcE n a)) ∧ Below w.heap.size w w' := by
  obtain ⟨x, y, z, v⟩ := a
  go_enter Try.func119, Try.ntmps119
  go_wp2
  all_goals
    go_ret
    refine ⟨ret_int ?_, one_new⟩
    simp only [arcE]
    repeat' split
    all_goals first | omega | (simp_all <;> omega)
end Go.Proofs.Ythbffhlfdjpfaaa
